/- The disk: how many bytes all files have behind a store or a removal; find. -/
import Derived.Test.YtdmmfeglnmkmdaaD
namespace Go.Proofs.Ytdmmfeglnmkmdaa
open Go.RowKit Go.Maps

theorem sum_perm {l l' : List Nat} (h : l.Perm l') : l.sum = l'.sum := h.sum_nat
theorem total_insert (x : Lit × DataW Unit) (es : List (Lit × DataW Unit)) : total (.map (DataW.insert x es)) = lenOf x.2 + total (.map es) := by
  have := sum_perm ((WideShapes.insert_perm x es).map fun p => lenOf p.2)
  simpa [total] using this
theorem total_strike (k : Lit) : ∀ (es : List (Lit × DataW Unit)), es.Pairwise (fun p q => p.1 ≠ q.1) →
    total (.map (es.filter fun p => !p.1.sameKey k)) + lenOf ((DataW.map es).atKey k (fd [] 0)) = total (.map es)
  | [], _ => rfl
  | y :: r, h => by
    obtain ⟨h1, h2⟩ := List.pairwise_cons.1 h
    have ih := total_strike k r h2
    cases hy : y.1.sameKey k
    · have e : (DataW.map (y :: r)).atKey k (fd [] 0) = (DataW.map r).atKey k (fd [] 0) := by simp [DataW.atKey, hy]
      rw [e]
      simp only [List.filter_cons, hy, Bool.not_false, if_true]
      simp only [total, List.map_cons, List.sum_cons] at ih ⊢
      omega
    · have hr : ∀ p ∈ r, p.1.sameKey k = false := by
        intro p hp
        cases hpk : p.1.sameKey k
        · rfl
        · exact absurd ((WideAt.sameKey_eq hy).trans (WideAt.sameKey_eq hpk).symm) (h1 p hp)
      have e : (DataW.map (y :: r)).atKey k (fd [] 0) = y.2 := by simp [DataW.atKey, hy]
      have e2 : (r.filter fun p => !p.1.sameKey k) = r := List.filter_eq_self.2 fun p hp => by rw [hr p hp]; rfl
      rw [e]
      simp only [List.filter_cons, hy, Bool.not_true, Bool.false_eq_true, if_false, e2]
      simp only [total, List.map_cons, List.sum_cons]
      omega
theorem total_del {D : DataW Unit} (h : Tidy D) (k : Lit) : total (D.del k) + lenOf (D.atKey k (fd [] 0)) = total D := by
  obtain ⟨es, rfl, hp⟩ := h
  exact total_strike k es hp
theorem total_put {D : DataW Unit} (h : Tidy D) (k : Lit) (d : DataW Unit) : total (D.put k d) + lenOf (D.atKey k (fd [] 0)) = total D + lenOf d := by
  obtain ⟨es, rfl, hp⟩ := h
  have := total_strike k es hp
  show total (.map (DataW.insert (k, d) (es.filter fun p => !p.1.sameKey k))) + _ = _
  rw [total_insert]
  simp only
  omega
theorem lenOf_fd (s : List UInt8) (k : Int) : lenOf (fd s k) = s.length := rfl
theorem keyLit (s : List UInt8) : WideAt.IsKeyLit (.string s) := by simp [WideAt.IsKeyLit]

theorem results_cell_slot {P : Program} {fn : Func} {p q : Tmp} {ty : TypeId} (h : fn.results = #[.cell p ty, .tmp q]) (tmps : Array Value) (w : World) (g : Nat) (t : TypeId) (cs : Array Value) (fr : Nat × Nat) (d : TypeDesc)
    (hp : tmps.getD p undef = .pointer (some ⟨g, 0, none⟩)) (hg : w.heap[g]? = some (.cells cs t fr))
    (hu : P.underlying ty = some d) (hd : (match d with | .struct _ | .array _ _ => true | _ => false) = true) (hi : (P.info? ty).map (·.size) = some cs.size) :
    (results fn tmps).run P w = .ok (.tuple #[.agg cs, tmps.getD q undef]) w := by
  have hp' : tmps[p]?.getD undef = .pointer (some ⟨g, 0, none⟩) := by simpa using hp
  simp [results, h, hp', asAddr, run_loadVar_row w g t ty cs fr d hg hu hd hi]

def keyL (s : ByteArray) : Lit := .string s.data.toList
def Dk.hasK (x : Dk) (s : ByteArray) : Bool := Maps.has x.D (keyL s)
def Dk.at (x : Dk) (s : ByteArray) : DataW Unit := x.D.atKey (keyL s) (fd [] 0)
def Dk.findE (x : Dk) (s : ByteArray) : Int := if (x.down || (x.fuse == 0)) = true then 5 else if x.hasK s = true then 0 else 2

theorem keyOf_string (s : ByteArray) (hs : s.size ≤ maxLen) : keyOf Try.prog 9 (.string s) = some (keyL s) := by
  simp [keyOf, Try.underlying9, mapKey, keyL, hs]

theorem Turn.at_new {d m : Nat} {w w1 : World} {o : Obj} (h : Turn d m (w.alloc o) w1) (hd : d < w.heap.size) (hm : m < w.heap.size) : w1.heap[w.heap.size]? = some o := by
  rw [h.block w.heap.size (by simp) (by omega) (by omega)]
  exact (MapKept.heap_alloc w o).1
theorem Turn.start {d m : Nat} {w w1 : World} {o : Obj} (h : Turn d m (w.alloc o) w1) : Turn d m w w1 := ((Turn.refl d m w).alloc o).trans h

/-- A file's two cells in a block of the walk's own. -/
theorem file_at {w : World} {b : Nat} {s : ByteArray} {k : Int} (h : w.heap[b]? = some (.cells #[.string s, .int .i64 k] 74 (0, 0))) :
    w.cell? ⟨b, 0, none⟩ = some (.string s) ∧ w.cell? ⟨b, 1, none⟩ = some (.int .i64 k) ∧ w.frozen? ⟨b, 0, none⟩ = false ∧ w.frozen? ⟨b, 1, none⟩ = false :=
  ⟨Lib.cell_of_heap h 0, Lib.cell_of_heap h 1, Lib.frozen_of_heap h 0, Lib.frozen_of_heap h 1⟩
theorem file_set {w : World} {b : Nat} {s s' : ByteArray} {k k' : Int} (h : w.heap[b]? = some (.cells #[.string s, .int .i64 k] 74 (0, 0))) :
    ((w.setCell ⟨b, 0, none⟩ (.string s')).setCell ⟨b, 1, none⟩ (.int .i64 k')).heap[b]? = some (.cells #[.string s', .int .i64 k'] 74 (0, 0)) := by
  simp [World.setCell, Array.getElem?_modify, h]

set_option maxHeartbeats 1000000 in
/-- find, of a name that may not be. -/
theorem find_no (d m : Nat) (x : Dk) (nm : ByteArray) (may : Bool) (w : World) (h : IsDisk w d m x) (hs : nm.size ≤ maxLen) (hb : (may && nameB nm.data.toList) = false) :
    Calls Try.prog 60 #[.pointer (some ⟨d, 0, none⟩), .string nm, .bool may] w fun e w' => e = .returned (.tuple #[.agg #[.string ⟨#[]⟩, .int .i64 0], .int .i64 1]) ∧ IsDisk w' d m x ∧ Turn d m w w' := by
  have h1 := h.alloc (.cells #[.string ⟨#[]⟩, .int .i64 0] 74)
  have hd := h.ltd
  have hmm := h.ltm
  have hm : nm.size ≤ 9223372036854775807 := by unfold maxLen at hs; omega
  have T1 : Turn d m (w.alloc (.cells #[.string ⟨#[]⟩, .int .i64 0] 74)) (w.alloc (.cells #[.string ⟨#[]⟩, .int .i64 0] 74)) := Turn.refl _ _ _
  clear h
  cases may
  · go_enter Try.func60, Try.ntmps60
    go_wp2_with (go_at_call 85; refine (call_no d m x _ h1).mono ?_; rintro e w' ⟨rfl, rfl⟩)
    refine bodyPost_ret (results_cell_slot Try.results60 _ _ w.heap.size 74 #[.string ⟨#[]⟩, .int .i64 0] (0, 0) _ (by simp) (T1.at_new hd hmm) Try.underlying74 rfl (by kernel_rfl)) rfl ⟨rfl, h1, T1.start⟩
  · have hb' : nameB nm.data.toList = false := by simpa using hb
    go_enter Try.func60, Try.ntmps60
    go_wp2_with fail
    refine (right_any nm _ hm).mono ?_
    rintro e w1 ⟨rfl, hb1⟩
    rw [hb']
    have h2 := h1.below hb1
    have T2 := T1.trans (Turn.of_below hb1)
    have hat := T2.at_new hd hmm
    obtain ⟨q0, q1, q2, q3⟩ := file_at hat
    go_wp2_with (go_at_call 85; refine (call_no d m x _ h2).mono ?_; rintro e w' ⟨rfl, rfl⟩)
    refine bodyPost_ret (results_cell_slot Try.results60 _ _ w.heap.size 74 #[.string ⟨#[]⟩, .int .i64 0] (0, 0) _ (by simp) (file_set hat) Try.underlying74 rfl (by kernel_rfl)) rfl ⟨rfl, ?_, ?_⟩
    · exact (h2.setNew _ (by omega) (by omega) _ _).setNew _ (by omega) (by omega) _ _
    · exact ((T2.start.setNew _ (Nat.le_refl _) _ _).setNew _ (Nat.le_refl _) _ _)

theorem zeroFile_any (W : World) : (zeroValue 74).run Try.prog W = .ok (.agg #[.string ⟨#[]⟩, .int .i64 0]) W := Try.zeroValue74 W

/-- 'f, is := d.files[name]'. -/
theorem wpList_look {P : Program} (w : World) {ops : Array Oper} {rest : List Oper} {o : Oper} {a : Act} {Q : Exit → Act → World → Prop}
    (hg : o.guard = none) (mo xo : Operand) (t : TypeId) (hop : o.op = Op.lookup t mo xo true) (k e : TypeId) (K : Keyed P k) (ht : P.underlying t = some (.map k e))
    (hz : (zeroValue e).run P w = .ok (.agg #[.string ⟨#[]⟩, .int .i64 0]) w) (b n : Nat) (D : DataW Unit)
    (hm : a.eval mo = .map (some b)) (hown : w.ownsMap P k fileElem b n D) (key : Value) (kl : Lit) (hx : a.eval xo = key) (hkey : keyOf P k key = some kl) (is : Bool) (his : Maps.has D kl = is)
    (hK : ∀ (s : ByteArray) (q : Int), D.atKey kl (fd [] 0) = fd s.data.toList q → 0 ≤ q → q ≤ s.size → wpList P ops Q rest (a.put o.dst (.tuple #[.agg #[.string s, .int .i64 q], .bool is])) w) :
    wpList P ops Q (o :: rest) a w :=
  wpList_lookup_own_ok w hg mo xo t hop k e K ht fileElem hz (fd [] 0) [] (fileElem_mk ⟨#[]⟩ 0 (by decide) (by decide)) b n D hm hown key kl hx hkey (fun v ps hv => by
    obtain ⟨s, q, rfl, hz', h0, h1⟩ := fileElem_inv hv
    rw [his]
    exact hK s q (congrArg Prod.fst hz') h0 h1)

set_option maxHeartbeats 1000000 in
set_option maxRecDepth 100000 in
/-- find, of a name that may be. -/
theorem find_any (d m : Nat) (x : Dk) (nm : ByteArray) (w : World) (h : IsDisk w d m x) (hs : nm.size ≤ maxLen) (hb : nameB nm.data.toList = true) :
    Calls Try.prog 60 #[.pointer (some ⟨d, 0, none⟩), .string nm, .bool true] w fun e w' => ∃ (s : ByteArray) (k : Int), e = .returned (.tuple #[.agg #[.string s, .int .i64 k], .int .i64 (x.findE nm)]) ∧ IsDisk w' d m x.called ∧ Turn d m w w' ∧
      (x.findE nm = 0 → x.at nm = fd s.data.toList k ∧ 0 ≤ k ∧ k ≤ s.size) ∧ (x.findE nm ≠ 0 → s = ⟨#[]⟩ ∧ k = 0) := by
  have h1 := h.alloc (.cells #[.string ⟨#[]⟩, .int .i64 0] 74)
  have hd := h.ltd
  have hmm := h.ltm
  have hm : nm.size ≤ 9223372036854775807 := by unfold maxLen at hs; omega
  have hkey := keyOf_string nm hs
  have T1 : Turn d m (w.alloc (.cells #[.string ⟨#[]⟩, .int .i64 0] 74)) (w.alloc (.cells #[.string ⟨#[]⟩, .int .i64 0] 74)) := Turn.refl _ _ _
  clear h
  go_enter Try.func60, Try.ntmps60
  go_wp2_with fail
  refine (right_any nm _ hm).mono ?_
  rintro e w1 ⟨rfl, hb1⟩
  rw [hb]
  have h2 := h1.below hb1
  have T2 := T1.trans (Turn.of_below hb1)
  clear h1 hb1 T1
  go_wp2_with fail
  refine (call_any d m x _ h2).mono ?_
  rintro e w2 ⟨rfl, h3, T3⟩
  have T4 := T2.trans T3
  clear h2 T2 T3
  have hat := T4.at_new hd hmm
  obtain ⟨q0, q1, q2, q3⟩ := file_at hat
  cases hdn : (x.down || (x.fuse == 0))
  · have E : x.callE = 0 := by simp [Dk.callE, hdn]
    rw [E]
    have c3 : w2.cell? ⟨d, 3, none⟩ = some (.map (some m)) := h3.c 3
    have hz := fun W => zeroFile_any W
    have hlt : w.heap.size < w2.heap.size := (Array.getElem?_eq_some_iff.1 hat).1
    have hat3 : ∀ (s' : ByteArray) (k' : Int) (o : Obj), (((w2.setCell ⟨w.heap.size, 0, none⟩ (.string s')).setCell ⟨w.heap.size, 1, none⟩ (.int .i64 k')).alloc o).heap[w.heap.size]? = some (.cells #[.string s', .int .i64 k'] 74 (0, 0)) := fun s' k' o => (Below.heap_alloc _ o _ (by simpa [World.setCell] using hlt)).trans (file_set hat)
    cases his : x.hasK nm
    · have F : x.findE nm = 2 := by simp [Dk.findE, hdn, his]
      go_wp2_with (at_lookup; refine wpList_look _ rfl _ _ 64 rfl 9 74 (string_keyed Try.underlying9) Try.underlying64 (hz _) m (Maps.size x.D) x.D rfl h3.own _ (keyL nm) rfl hkey false his ?_; intro s k hs k0 k1)
      refine bodyPost_ret (results_cell_slot Try.results60 _ _ w.heap.size 74 #[.string ⟨#[]⟩, .int .i64 0] (0, 0) _ (by simp) (hat3 _ _ _) Try.underlying74 rfl (by kernel_rfl)) rfl ⟨⟨#[]⟩, 0, by rw [F]; rfl, ?_, ?_, fun h => (by rw [F] at h; cases h), fun _ => ⟨rfl, rfl⟩⟩
      · exact ((h3.setNew _ (by omega) (by omega) _ _).setNew _ (by omega) (by omega) _ _).alloc _
      · exact ((T4.start.setNew _ (Nat.le_refl _) _ _).setNew _ (Nat.le_refl _) _ _).alloc _
    · have F : x.findE nm = 0 := by simp [Dk.findE, hdn, his]
      go_wp2_with (at_lookup; refine wpList_look _ rfl _ _ 64 rfl 9 74 (string_keyed Try.underlying9) Try.underlying64 (hz _) m (Maps.size x.D) x.D rfl h3.own _ (keyL nm) rfl hkey true his ?_; intro s k hs k0 k1)
      refine bodyPost_ret (results_cell_slot Try.results60 _ _ w.heap.size 74 #[.string s, .int .i64 k] (0, 0) _ (by simp) (hat3 _ _ _) Try.underlying74 rfl (by kernel_rfl)) rfl ⟨s, k, by rw [F]; rfl, ?_, ?_, fun _ => ⟨hs, k0, k1⟩, fun h => absurd F h⟩
      · exact ((h3.setNew _ (by omega) (by omega) _ _).setNew _ (by omega) (by omega) _ _).alloc _
      · exact ((T4.start.setNew _ (Nat.le_refl _) _ _).setNew _ (Nat.le_refl _) _ _).alloc _
  · have E : x.callE = 5 := by simp [Dk.callE, hdn]
    have F : x.findE nm = 5 := by simp [Dk.findE, hdn]
    rw [E]
    go_wp2
    refine bodyPost_ret (results_cell_slot Try.results60 _ _ w.heap.size 74 #[.string ⟨#[]⟩, .int .i64 0] (0, 0) _ (by simp) (file_set hat) Try.underlying74 rfl (by kernel_rfl)) rfl ⟨⟨#[]⟩, 0, by rw [F]; rfl, ?_, ?_, fun h => (by rw [F] at h; cases h), fun _ => ⟨rfl, rfl⟩⟩
    · exact (h3.setNew _ (by omega) (by omega) _ _).setNew _ (by omega) (by omega) _ _
    · exact ((T4.start.setNew _ (Nat.le_refl _) _ _).setNew _ (Nat.le_refl _) _ _)
end Go.Proofs.Ytdmmfeglnmkmdaa
