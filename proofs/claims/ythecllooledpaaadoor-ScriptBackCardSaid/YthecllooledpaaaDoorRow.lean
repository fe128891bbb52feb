/- chainmanlaw42.ScriptBack: its row and its card, from the walk. -/
import Derived.Test.YthecllooledpaaaDoorCards
import Derived.Test.YthecllooledpaaaDoorTie
import Derived.Test.YthecllooledpaaaDoorW0
import Derived.WalkKit
import Derived.ProofKit
import Derived.OpenShut
import Derived.Carry
import Derived.Deep.Slices
import Derived.Deep.Fields
import Derived.ChangeSame
import Derived.Deep.DeepHandedRow
import Derived.LaidSub
import Derived.Lib.LaidTab
import Derived.ChangeMaps5
namespace Go.Proofs.YthecllooledpaaaDoor.back
open Go.ChangeShapes Go.WideShapes Go.ChangeAt Go.RowKit Go.Deep

section
variable {H : Type} {enc : TypeId × Value → H} {P : Program} {w : World} {base : Nat} {spare : Nat → Bool} {held : Bool}
theorem open_slice_fields {t e : TypeId} {fs : Array Field} {fuel : Nat} {cs : List Value} {x : DataW H × List MemPlace} (ht : P.underlying t = some (.slice e)) (he : P.underlying e = some (.struct fs))
    (hone : oneCellFields P fs = true) (hC : P.cellsOf e = fs.size) (h : DataW.trod enc P w base spare held fuel t cs = some x) :
    (cs = [.slice none 0 0] ∧ x = (.nil, [])) ∨
    ∃ (a : Addr) (len cap m : Nat) (D : Nat → DataW H) (Pl : Nat → List MemPlace), cs = [.slice (some a) len cap] ∧ base ≤ a.block ∧ len ≤ cap ∧ cap ≤ maxLen ∧ m = (if spare a.block then cap else len) ∧
      x = (.slice ((List.range len).map D) ((List.range (m - len)).map fun j => D (len + j)), MemPlace.row a (m * fs.size) ++ (List.range m).flatMap Pl) ∧
      ∀ i, i < m → ∃ (ys : List (DataW H × List MemPlace)) (n : Nat), D i = .agg (ys.map (·.1)) ∧ Pl i = ys.flatMap (·.2) ∧ ys.length = fs.size ∧
        ∀ (j : Nat) (f : Field), fs[j]? = some f → ∃ (v : Value) (y : DataW H × List MemPlace), w.cell? (a.add (i * fs.size + j)) = some v ∧ ys[j]? = some y ∧ DataW.trod enc P w base spare held n f.type [v] = some y := by
  rcases open_slice ht h with h0 | ⟨a, len, cap, m, n, D, Pl, hcs, hb, hl, hm, hmm, hx, hi⟩
  · exact .inl h0
  · refine .inr ⟨a, len, cap, m, D, Pl, hcs, hb, hl, hm, hmm, by rw [hC] at hx; exact hx, fun i him => ?_⟩
    obtain ⟨cs', hc, ht'⟩ := hi i him
    rw [hC] at hc
    obtain ⟨ys, n', hn', hy, hlen, hyl, hf⟩ := DataW.trod_struct he ht'
    obtain ⟨_, hcl, hat⟩ := World.cells?_some hc
    simp only [Prod.mk.injEq] at hy
    refine ⟨ys, n', hy.1, hy.2, hyl, fun j f hj => ?_⟩
    obtain ⟨ho, hk⟩ := hone_of hone j f hj
    have hjl : j < fs.size := (Array.getElem?_eq_some_iff.1 hj).1
    have hcell := hat j hjl
    have hv : cs'[j]? = some (cs'[j]'(by omega)) := List.getElem?_eq_getElem (by omega)
    have h1 := hf j f hj
    rw [ho, hk] at h1
    have hone' : (cs'.drop j).take 1 = [cs'[j]'(by omega)] := by
      rw [List.drop_eq_getElem_cons (by omega)]
      rfl
    rw [hone'] at h1
    have hys : ys[j]? = some (ys[j]'(by omega)) := List.getElem?_eq_getElem (by omega)
    refine ⟨_, _, ?_, hys, h1.trans hys⟩
    rw [← Go.Deep.add_add, hcell, hv]
end

theorem own : ownKnob Tryd.prog.godebug = none := by kernel_rfl
theorem laidOut : laidOutB Tryd.prog = true := by kernel_rfl
theorem g1 : Tryd.prog.globalNamed "internal/strconv.uint64pow10" = some 1 := by kernel_rfl
theorem g1t : (Tryd.prog.globals[1]?).map (·.type) = some 101 := by kernel_rfl
theorem c101 : Tryd.prog.cellsOf 101 = 20 := by kernel_rfl
theorem c93 : Tryd.prog.cellsOf 93 = 1 := by kernel_rfl
theorem c38 : Tryd.prog.cellsOf 38 = 6 := by kernel_rfl
theorem c3 : Tryd.prog.cellsOf 3 = 1 := by kernel_rfl
theorem one38 : oneCellFields Tryd.prog #[
        { name := "Kind", type := 3, offset := 0, embedded := false, tag := "", pkgPath := "", byteOffset := 0 },
        { name := "Name", type := 9, offset := 1, embedded := false, tag := "", pkgPath := "", byteOffset := 8 },
        { name := "S", type := 9, offset := 2, embedded := false, tag := "", pkgPath := "", byteOffset := 24 },
        { name := "N", type := 3, offset := 3, embedded := false, tag := "", pkgPath := "", byteOffset := 40 },
        { name := "Bits", type := 35, offset := 4, embedded := false, tag := "", pkgPath := "", byteOffset := 48 },
        { name := "Keep", type := 36, offset := 5, embedded := false, tag := "", pkgPath := "", byteOffset := 56 }] = true := by kernel_rfl

/-- The table of powers, third on the row's list. -/
theorem table {W : World} (h : laidMetH Tryd.prog Rows.scriptBackRow.laid W) : Lib.TabIs Tryd.prog W "internal/strconv.uint64pow10" .u64 Lib.pow10Tab := by
  have h1 := (laidMetH_iff.1 h).1.filter (fun x => x.1 == "internal/strconv.uint64pow10")
  exact Lib.tabIs_of_head (rest := []) g1 g1t Tryd.underlying101 Tryd.underlying93 c93 c101 (Eq.mp (congrArg (fun l => laidMet Tryd.prog l W) (by kernel_rfl)) h1)

theorem ints_of {H : Type} {enc : TypeId × Value → H} {W : World} {fuel : Nat} {v : Value} {x : DataW H × List MemPlace}
    (h : DataW.trod enc Tryd.prog W 0 (fun _ => true) true fuel 36 [v] = some x) : ∃ ks : List Int, Ints W v ks ∧ ∀ n ∈ ks, -9223372036854775808 ≤ n ∧ n ≤ 9223372036854775807 := by
  rcases open_ints Tryd.underlying36 Tryd.underlying3 c3 h with ⟨hc, _⟩ | ⟨a, len, cap, zs, hc, _, hl, hm, hz, _, hcell, hw⟩
  · cases hc
    exact ⟨[], ⟨none, 0, rfl, Nat.le_refl _, Nat.zero_le _, fun j hj => absurd hj (by simp)⟩, by simp⟩
  · cases hc
    have hz' : zs.length = cap := by simpa using hz
    have hl' : (zs.take len).length = len := by simp; omega
    refine ⟨zs.take len, ⟨some a, cap, by rw [hl'], by rw [hl']; exact hl, hm, fun j hj => ⟨a, rfl, ?_⟩⟩, fun n hn => ?_⟩
    · rw [hl'] at hj
      rw [hcell j (by omega)]
      simp [List.getD, hj]
    · have := hw n (List.mem_of_mem_take hn)
      simp [Lit.wf, IntKind.min, IntKind.max, IntKind.signed, IntKind.bits] at this
      omega

theorem act_of {H : Type} {enc : TypeId × Value → H} {W : World} {a : Addr} {i n : Nat} {ys : List (DataW H × List MemPlace)}
    (hf : ∀ (j : Nat) (f : Field), (#[
        { name := "Kind", type := 3, offset := 0, embedded := false, tag := "", pkgPath := "", byteOffset := 0 },
        { name := "Name", type := 9, offset := 1, embedded := false, tag := "", pkgPath := "", byteOffset := 8 },
        { name := "S", type := 9, offset := 2, embedded := false, tag := "", pkgPath := "", byteOffset := 24 },
        { name := "N", type := 3, offset := 3, embedded := false, tag := "", pkgPath := "", byteOffset := 40 },
        { name := "Bits", type := 35, offset := 4, embedded := false, tag := "", pkgPath := "", byteOffset := 48 },
        { name := "Keep", type := 36, offset := 5, embedded := false, tag := "", pkgPath := "", byteOffset := 56 }] : Array Field)[j]? = some f →
      ∃ (v : Value) (y : DataW H × List MemPlace), W.cell? (a.add (i * 6 + j)) = some v ∧ ys[j]? = some y ∧ DataW.trod enc Tryd.prog W 0 (fun _ => true) true n f.type [v] = some y) :
    ∃ (t : Act) (u : Value), t.wf ∧ Ints W u t.keep ∧ ∀ j x, (actCells t u)[j]? = some x → W.cell? (a.add (i * 6 + j)) = some x := by
  obtain ⟨v0, y0, e0, _, t0⟩ := hf 0 _ rfl
  obtain ⟨v1, y1, e1, _, t1⟩ := hf 1 _ rfl
  obtain ⟨v2, y2, e2, _, t2⟩ := hf 2 _ rfl
  obtain ⟨v3, y3, e3, _, t3⟩ := hf 3 _ rfl
  obtain ⟨v4, y4, e4, _, t4⟩ := hf 4 _ rfl
  obtain ⟨v5, y5, e5, _, t5⟩ := hf 5 _ rfl
  obtain ⟨z0, h0, _, w0⟩ := DataW.trod_int Tryd.underlying3 t0
  obtain ⟨s1, h1, _, _⟩ := DataW.trod_string Tryd.underlying9 t1
  obtain ⟨s2, h2, _, _⟩ := DataW.trod_string Tryd.underlying9 t2
  obtain ⟨z3, h3, _, w3⟩ := DataW.trod_int Tryd.underlying3 t3
  obtain ⟨z4, h4, _, w4⟩ := DataW.trod_int Tryd.underlying35 t4
  obtain ⟨ks, hk, wk⟩ := ints_of t5
  cases h0; cases h1; cases h2; cases h3; cases h4
  simp [Lit.wf, IntKind.min, IntKind.max, IntKind.signed, IntKind.bits] at w3 w4
  refine ⟨⟨z0, s1, s2, z3, z4, ks⟩, v5, ⟨by simp; omega, by simp; omega, by simp; omega, by simp; omega, wk⟩, hk, fun j x hj => ?_⟩
  unfold actCells at hj
  match j, hj with
  | 0, hj => cases hj; exact e0
  | 1, hj => cases hj; exact e1
  | 2, hj => cases hj; exact e2
  | 3, hj => cases hj; exact e3
  | 4, hj => cases hj; exact e4
  | 5, hj => cases hj; exact e5
  | j + 6, hj => simp at hj

theorem acts_of {H : Type} {enc : TypeId × Value → H} {W : World} {fuel : Nat} {v : Value} {x : DataW H × List MemPlace}
    (h : DataW.trod enc Tryd.prog W 0 (fun _ => true) true fuel 22 [v] = some x) : ∃ l : List Act, Acts W v l ∧ ∀ a ∈ l, a.wf := by
  rcases open_slice_fields Tryd.underlying22 Tryd.underlying38 one38 c38 h with ⟨hc, _⟩ | ⟨a, len, cap, m, D, Pl, hc, _, hl, hm, hmm, _, hi⟩
  · cases hc
    exact ⟨[], ⟨none, 0, rfl, Nat.le_refl _, Nat.zero_le _, fun j a hj => by simp at hj⟩, by simp⟩
  · cases hc
    have hm' : m = cap := by simpa using hmm
    subst hm'
    have each : ∀ i, ∃ (t : Act) (u : Value), i < len → t.wf ∧ Ints W u t.keep ∧ ∀ j x, (actCells t u)[j]? = some x → W.cell? (a.add (i * 6 + j)) = some x := by
      intro i
      by_cases hl2 : i < len
      · obtain ⟨ys, n, _, _, _, hf⟩ := hi i (by omega)
        obtain ⟨t, u, ht⟩ := act_of (a := a) (i := i) (ys := ys) (n := n) hf
        exact ⟨t, u, fun _ => ht⟩
      · exact ⟨⟨0, ByteArray.empty, ByteArray.empty, 0, 0, []⟩, .nilIface, fun h => absurd h hl2⟩
    obtain ⟨T, hT1⟩ : ∃ T : Nat → Act, ∀ i, ∃ u : Value, i < len → (T i).wf ∧ Ints W u (T i).keep ∧ ∀ j x, (actCells (T i) u)[j]? = some x → W.cell? (a.add (i * 6 + j)) = some x :=
      ⟨fun i => Classical.choose (each i), fun i => Classical.choose_spec (each i)⟩
    obtain ⟨U, hT⟩ : ∃ U : Nat → Value, ∀ i, i < len → (T i).wf ∧ Ints W (U i) (T i).keep ∧ ∀ j x, (actCells (T i) (U i))[j]? = some x → W.cell? (a.add (i * 6 + j)) = some x :=
      ⟨fun i => Classical.choose (hT1 i), fun i => Classical.choose_spec (hT1 i)⟩
    refine ⟨(List.range len).map T, ⟨some a, m, by simp, by simpa using hl, hm, fun i b hb => ?_⟩, fun b hb => ?_⟩
    · rw [List.getElem?_map, Option.map_eq_some_iff] at hb
      obtain ⟨k, hk, rfl⟩ := hb
      have hlt : i < len := by
        have := (List.getElem?_eq_some_iff.1 hk).1
        simpa using this
      rw [List.getElem?_range hlt, Option.some.injEq] at hk
      subst hk
      exact ⟨a, U i, rfl, (hT i hlt).2⟩
    · rw [List.mem_map] at hb
      obtain ⟨i, hi', rfl⟩ := hb
      exact (hT i (by simpa using hi')).1

set_option maxRecDepth 100000 in
theorem contract (H : Type) (enc : TypeId × Value → H) (W : World) (base : Nat) (args : Array Value) (ds gs : List (DataW H)) (before : List MemPlace)
    (hval : ∀ (j : Nat) t v, Tryd.f3.params[j]? = some t → args[j]? = some v → Value.okWide Tryd.prog W .any base t v)
    (hW : DataW.Whole enc Tryd.prog Tryd.f3.params.toList Rows.scriptBackSpec.vars false W args.toList ds gs before) (hL : laidMetH Tryd.prog Rows.scriptBackRow.laid W) (hsh : W.ShapedOpen Tryd.prog) :
    Calls Tryd.prog 3 args W fun e W' => ∃ v, e = .returned v ∧ Rows.scriptBackSpec.post enc Tryd.prog Tryd.f3 false true false false W args v W' := by
  have hW' := hW
  obtain ⟨p, q, hA0, hV, rfl, hfz, hnd⟩ := hW
  have hA : DataW.TrodAll enc Tryd.prog W 0 (fun _ => true) true Tryd.f3.params.toList args.toList ds p := hA0
  rw [Tryd.params3] at hA hval
  obtain ⟨v0, vs0, d0, ds0, p0, q0, hargs, rfl, rfl, h0, r0⟩ := trodAll_cons hA
  obtain ⟨v1, vs1, d1, ds1, p1, q1, rfl, rfl, rfl, h1, r1⟩ := trodAll_cons r0
  obtain ⟨rfl, rfl, rfl⟩ := trodAll_nil r1
  obtain rfl : args = #[v0, v1] := by cases args; simp_all
  obtain ⟨rfl, rfl⟩ := trodVars_none hV
  obtain ⟨more, rfl, rfl, rfl, hmx⟩ := Go.ChangeMaps.open_string Tryd.underlying9 (hval 1 9 v1 rfl rfl) h1
  obtain ⟨A, len, cap, rfl⟩ := okWide_slice Tryd.underlying22 (hval 0 22 v0 rfl rfl)
  have k0 := h0
  obtain ⟨fuel, hf⟩ := h0
  obtain ⟨l, hl, hwf⟩ := acts_of hf
  obtain ⟨m, hm⟩ := Tryd.laysM219.s1_3 W hsh
  have lt0 : ∀ x ∈ p0, x.block < W.heap.size := fun x hx => DataW.trod_lt _ _ _ _ hf x hx
  clear hA0
  simp only [List.append_nil] at hW'
  have fit : Fit W := ⟨⟨m, hm⟩, table hL⟩
  refine (back_walk _ l more W fit hl hwf (by unfold maxLen at hmx; omega)).mono fun e W' ⟨he, bel⟩ => ?_
  subst he
  exact ⟨_, rfl, _, _, _, [], _, [], hW', trodAll_mk1 (shut_bool Tryd.underlying4 _),
    trodAll_cons_mk (Below.trod laidOut (by kernel_rfl) (of_decide_eq_true (by kernel_rfl)) k0 bel lt0) (trodAll_cons_mk (Go.ChangeMaps.shut_string Tryd.underlying9 hmx) trodAll_mk0), rfl, bel.frame _, fun h => by cases h⟩

/-- A listed datum's cells. -/
def litOf : DataW Unit → Value
  | .lit (.int k n) => .int k n
  | _ => .nilIface
def cellsOf : DataW Unit → Array Value
  | .agg xs => (xs.flatMap fun | .agg ys => ys.map litOf | y => [litOf y]).toArray
  | _ => #[]
noncomputable def laidAt (h : Array Obj) (g : Nat) (d : DataW Unit) : Array Obj := h.modify g fun
  | .cells _ t frozen => .cells (cellsOf d) t frozen
  | o => o
/-- A world for the witness: the settled one, the five tables laid. -/
noncomputable def laidWorld (os : Os) : World :=
  let w0 := World.holding Tryd.prog os ⟨#[], #[], []⟩
  { w0 with heap := laidAt (laidAt (laidAt (laidAt (laidAt w0.heap 1 Rows.laid_internal_strconv_uint64pow10) 2 Rows.laid_unicode_utf8_first) 3 Rows.laid_unicode_utf8_acceptRanges) 4 Rows.laid_math_bits_deBruijn32tab) 5 Rows.laid_math_bits_deBruijn64tab }
noncomputable abbrev wargs : Array Value := #[.slice none 0 0, .string ⟨#[]⟩]
set_option maxRecDepth 100000 in
theorem laid_met (os : Os) : laidMet Tryd.prog Rows.scriptBackRow.laid ((laidWorld os).forCall (fun _ _ => 0) ⟨#[], wargs, []⟩).memory :=
  laidMet_of_run' 8 (by kernel_rfl) (by kernel_rfl)
theorem reads (os : Os) {H : Type} (enc : TypeId × Value → H) : ∃ places, DataW.whole enc Tryd.prog ((laidWorld os).forCall (fun _ _ => 0) ⟨#[], wargs, []⟩).memory Tryd.f3.params.toList Rows.scriptBackSpec.vars false wargs.toList 8 = some ([.nil, .lit (.string [])], [], places) :=
  ⟨[], by kernel_rfl⟩

set_option maxRecDepth 100000 in
theorem lifted (os : Os) (started : os.Started) (H : Type) (enc : TypeId × Value → H) (F : Stop.Interp) :
    ReturnsInHanded {} Tryd.checked os 3 .any ((OpenSpec.ofChange Rows.scriptBackSpec).preRow enc Tryd.prog Tryd.f3 Rows.scriptBackRow.domain false Rows.scriptBackRow.laid) (((OpenSpec.ofChange Rows.scriptBackSpec).at F).post enc Tryd.prog Tryd.f3 false true false false) := by
  obtain ⟨places, hx⟩ := reads os enc
  refine returnsInHanded_of_row (C := Tryd.checked) (s := OpenSpec.ofChange Rows.scriptBackSpec) own started (by kernel_rfl) Tryd.func3
    (witness_row_at (enc := enc) (C := Tryd.checked) false (laidWorld os) wargs rfl (by kernel_rfl) (by kernel_rfl) (by kernel_rfl)
      (OpenSpec.preRow_of_cond 8 hx (by kernel_rfl) (fun k hk => by cases hk) (by kernel_rfl) (laid_met os))) ?_
  intro W base args ds gs before hval hW _ _ _ hL hsh _
  exact contract H enc W base args ds gs before hval hW hL hsh

theorem said : Rows.ScriptBackSaid :=
  OpenClaim.holds_of_cond 3 Tryd.f3 rfl rfl rfl rfl rfl rfl rfl ⟨rfl, rfl, rfl, rfl, rfl⟩ rfl rfl rfl rfl rfl (by kernel_rfl) Tryd.func3 (by kernel_rfl)
    (of_decide_eq_true (by kernel_rfl)) (by unfold Func.isWrapper; first | (rw [if_pos (by decide +kernel)]; kernel_rfl) | (rw [if_neg (by decide +kernel)]; exact ⟨rfl, rfl⟩))
    (fun os started H enc _ F => by rw [OpenClaim.pre_eq_preRow]; exact lifted os started H enc F)

theorem plain (f : FuncId) (fn : Func) (hf : Tryd.pinned.checked.prog.funcNamed "chainman/chainmanlaw42.ScriptBack" = some f) (hfn : Tryd.pinned.checked.prog.funcs[f]? = some fn) :
    true = Tryd.pinned.checked.prog.looks [] ∧ ∀ (j : Nat) t, fn.params[j]? = some t → Tryd.pinned.checked.prog.wantsStandIn t = false := by
  obtain rfl : f = 3 := Option.some.inj ((show Tryd.prog.funcNamed "chainman/chainmanlaw42.ScriptBack" = some 3 by kernel_rfl).symm.trans hf) |>.symm
  obtain rfl : fn = Tryd.f3 := (Option.some.inj (Tryd.func3.symm.trans hfn)).symm
  refine ⟨by kernel_rfl, fun j t ht => ?_⟩
  rw [Tryd.params3] at ht
  have : t = 22 ∨ t = 9 := by simpa using Array.mem_of_getElem? ht
  rcases this with rfl | rfl
  · exact (show Tryd.prog.wantsStandIn 22 = false by kernel_rfl)
  · exact (show Tryd.prog.wantsStandIn 9 = false by kernel_rfl)

/-- The card. -/
theorem card : Rows.ScriptBackCardSaid :=
  Claim7.holds_tied_plain_at .later [] _ _ _ _ said (fun _ h => by cases h) (by kernel_rfl) (fun _ h => by cases h) scriptBack_row_tie rfl ⟨rfl, rfl⟩ (by kernel_rfl) rfl plain (by kernel_rfl)
end Go.Proofs.YthecllooledpaaaDoor.back

namespace Go.Proofs.YthecllooledpaaaDoor
/-- The card, under the seat's own name. -/
theorem scriptBackCardHolds : Rows.ScriptBackCardSaid := back.card
end Go.Proofs.YthecllooledpaaaDoor
