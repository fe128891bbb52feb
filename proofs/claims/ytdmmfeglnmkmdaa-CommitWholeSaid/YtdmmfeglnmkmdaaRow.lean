/- CommitWhole returns true for every input, and the input reads behind the call as it read before; no condition. -/
import Derived.Test.YtdmmfeglnmkmdaaV3
import Derived.Test.YtdmmfeglnmkmdaaRows
import Derived.ProofKit
import Derived.OpenShut
import Derived.Carry
import Derived.Deep.Slices
import Derived.Deep.Fields
namespace Go.Proofs.Ytdmmfeglnmkmdaa.whole
open Go.ChangeShapes Go.WideShapes Go.ChangeAt Go.RowKit Go.Deep Plain

theorem own : ownKnob Try.prog.godebug = none := by kernel_rfl
theorem laidOut : laidOutB Try.prog = true := by kernel_rfl
theorem c31 : Try.prog.cellsOf 31 = 3 := by kernel_rfl
theorem c35 : Try.prog.cellsOf 35 = 5 := by kernel_rfl
theorem c78 : Try.prog.cellsOf 78 = 4 := by kernel_rfl
theorem c33 : Try.prog.cellsOf 33 = 1 := by kernel_rfl
theorem c29 : Try.prog.cellsOf 29 = 1 := by kernel_rfl
theorem c9 : Try.prog.cellsOf 9 = 1 := by kernel_rfl
theorem c50 : Try.prog.cellsOf 50 = 1 := by kernel_rfl
theorem c3 : Try.prog.cellsOf 3 = 1 := by kernel_rfl

theorem collect {α : Type} (Q : Nat → α → Prop) : ∀ (len : Nat), (∀ i, i < len → ∃ t, Q i t) → ∃ l : List α, l.length = len ∧ ∀ i t, l[i]? = some t → Q i t
  | 0, _ => ⟨[], rfl, fun i t h => by simp at h⟩
  | len + 1, h => by
    obtain ⟨l, hl, hq⟩ := collect Q len fun i hi => h i (by omega)
    obtain ⟨t, ht⟩ := h len (by omega)
    refine ⟨l ++ [t], by simp [hl], fun i u hu => ?_⟩
    by_cases hi : i < l.length
    · rw [List.getElem?_append_left hi] at hu
      exact hq i u hu
    · rw [List.getElem?_append_right (by omega)] at hu
      have : i = l.length := by
        have := (List.getElem?_eq_some_iff.1 hu).1
        simp at this; omega
      subst this
      simp at hu
      rw [hl, ← hu]; exact ht

theorem five {cs : List Value} (h : cs.length = 5) : ∃ a b c d e, cs = [a, b, c, d, e] := by
  match cs, h with
  | [a, b, c, d, e], _ => exact ⟨a, b, c, d, e, rfl⟩
theorem four {cs : List Value} (h : cs.length = 4) : ∃ a b c d, cs = [a, b, c, d] := by
  match cs, h with
  | [a, b, c, d], _ => exact ⟨a, b, c, d, rfl⟩

theorem ints_of {H : Type} {enc : TypeId × Value → H} {W : World} {fuel : Nat} {v : Value} {x : DataW H × List MemPlace}
    (h : DataW.trod enc Try.prog W 0 (fun _ => true) true fuel 33 [v] = some x) : ∃ ks : List Int, Ints W v ks ∧ ∀ n ∈ ks, -9223372036854775808 ≤ n ∧ n ≤ 9223372036854775807 := by
  rcases open_ints Try.underlying33 Try.underlying3 c3 h with ⟨hc, _⟩ | ⟨a, len, cap, zs, hc, _, hl, hm, hz, _, hcell, hw⟩
  · cases hc
    exact ⟨[], ⟨none, 0, rfl, Nat.le_refl _, Nat.zero_le _, fun j hj => absurd hj (by simp)⟩, by simp⟩
  · cases hc
    have hz' : zs.length = cap := by simpa using hz
    have hl' : (zs.take len).length = len := by simp; omega
    refine ⟨zs.take len, ⟨some a, cap, by rw [hl'], by rw [hl']; exact hl, hm, fun j hj => ⟨a, rfl, ?_⟩⟩, fun n hn => ?_⟩
    · rw [hl'] at hj
      rw [hcell j (by omega)]
      simp [List.getD, hj]
    · have := hw n (List.mem_of_mem_take hn)
      simp [Lit.wf, IntKind.min, IntKind.max, IntKind.signed, IntKind.bits] at this
      omega

theorem file_of {H : Type} {enc : TypeId × Value → H} {W : World} {fuel : Nat} {a : Addr} {cs : List Value} {x : DataW H × List MemPlace}
    (hc : W.cells? 0 a 4 = some cs) (h : DataW.trod enc Try.prog W 0 (fun _ => true) true fuel 78 cs = some x) :
    ∃ f : Fl, f.wf ∧ ∀ j u, (flC f)[j]? = some u → W.cell? (a.add j) = some u := by
  obtain ⟨_, hl, hat⟩ := World.cells?_some hc
  obtain ⟨v0, v1, v2, v3, rfl⟩ := four hl
  obtain ⟨ys, n, _, _, _, hlen, hf⟩ := DataW.trod_struct Try.underlying78 h
  have hy : ∀ j, j < 4 → ∃ y, ys[j]? = some y := fun j hj => ⟨ys[j]'(by simpa [hlen] using hj), List.getElem?_eq_getElem _⟩
  obtain ⟨y0, e0⟩ := hy 0 (by omega)
  obtain ⟨y1, e1⟩ := hy 1 (by omega)
  obtain ⟨y2, e2⟩ := hy 2 (by omega)
  obtain ⟨y3, e3⟩ := hy 3 (by omega)
  have t0 : DataW.trod enc Try.prog W 0 (fun _ => true) true n 9 (([v0, v1, v2, v3].drop 0).take (Try.prog.cellsOf 9)) = ys[0]? := hf 0 _ rfl
  rw [c9, e0] at t0
  replace t0 : DataW.trod enc Try.prog W 0 (fun _ => true) true n 9 [v0] = some _ := t0
  have t1 : DataW.trod enc Try.prog W 0 (fun _ => true) true n 3 (([v0, v1, v2, v3].drop 1).take (Try.prog.cellsOf 3)) = ys[1]? := hf 1 _ rfl
  rw [c3, e1] at t1
  replace t1 : DataW.trod enc Try.prog W 0 (fun _ => true) true n 3 [v1] = some _ := t1
  have t2 : DataW.trod enc Try.prog W 0 (fun _ => true) true n 3 (([v0, v1, v2, v3].drop 2).take (Try.prog.cellsOf 3)) = ys[2]? := hf 2 _ rfl
  rw [c3, e2] at t2
  replace t2 : DataW.trod enc Try.prog W 0 (fun _ => true) true n 3 [v2] = some _ := t2
  have t3 : DataW.trod enc Try.prog W 0 (fun _ => true) true n 50 (([v0, v1, v2, v3].drop 3).take (Try.prog.cellsOf 50)) = ys[3]? := hf 3 _ rfl
  rw [c50, e3] at t3
  replace t3 : DataW.trod enc Try.prog W 0 (fun _ => true) true n 50 [v3] = some _ := t3
  obtain ⟨s, h0, _, _⟩ := DataW.trod_string Try.underlying9 t0
  obtain ⟨z1, h1, _, w1⟩ := DataW.trod_int Try.underlying3 t1
  obtain ⟨z2, h2, _, w2⟩ := DataW.trod_int Try.underlying3 t2
  obtain ⟨z3, h3, _, w3⟩ := DataW.trod_int Try.underlying50 t3
  cases h0; cases h1; cases h2; cases h3
  simp [Lit.wf, IntKind.min, IntKind.max, IntKind.signed, IntKind.bits] at w3
  refine ⟨⟨s, z1, z2, z3⟩, ⟨w3.1, by show z3 < _; omega⟩, fun j u hj => ?_⟩
  unfold flC at hj
  match j, hj with
  | 0, hj => cases hj; exact hat 0 (by omega)
  | 1, hj => cases hj; exact hat 1 (by omega)
  | 2, hj => cases hj; exact hat 2 (by omega)
  | 3, hj => cases hj; exact hat 3 (by omega)
  | j + 4, hj => simp at hj

theorem files_of {H : Type} {enc : TypeId × Value → H} {W : World} {fuel : Nat} {v : Value} {x : DataW H × List MemPlace}
    (h : DataW.trod enc Try.prog W 0 (fun _ => true) true fuel 29 [v] = some x) : ∃ fs : List Fl, Files W v fs ∧ ∀ f ∈ fs, f.wf := by
  rcases open_slice Try.underlying29 h with ⟨hc, _⟩ | ⟨a, len, cap, m, n, D, Pl, hc, _, hl, hm, hmm, _, hi⟩
  · cases hc
    exact ⟨[], ⟨none, 0, rfl, Nat.le_refl _, Nat.zero_le _, fun j a hj => by simp at hj⟩, by simp⟩
  · cases hc
    have hm' : m = cap := by simpa using hmm
    subst hm'
    obtain ⟨l, hll, hq⟩ := collect (fun i (f : Fl) => f.wf ∧ ∀ j u, (flC f)[j]? = some u → W.cell? (a.add (i * 4 + j)) = some u) len (fun i hil => by
      obtain ⟨cs', hc, ht⟩ := hi i (by omega)
      rw [c78] at hc
      obtain ⟨f, hw, hf⟩ := file_of hc ht
      exact ⟨f, hw, fun j u hj => by rw [← Go.Deep.add_add]; exact hf j u hj⟩)
    refine ⟨l, ⟨some a, m, by rw [hll], by omega, hm, fun i f hf => ⟨a, rfl, (hq i f hf).2⟩⟩, fun f hf => ?_⟩
    obtain ⟨i, hi, rfl⟩ := List.getElem_of_mem hf
    exact (hq i _ (List.getElem?_eq_getElem hi)).1

theorem try_of {H : Type} {enc : TypeId × Value → H} {W : World} {fuel : Nat} {a : Addr} {cs : List Value} {x : DataW H × List MemPlace}
    (hc : W.cells? 0 a 5 = some cs) (h : DataW.trod enc Try.prog W 0 (fun _ => true) true fuel 35 cs = some x) :
    ∃ (t : Tr), t.wf ∧ ∃ vf vk, Files W vf t.m.files ∧ Ints W vk t.keep ∧ ∀ j u, (trC t vf vk)[j]? = some u → W.cell? (a.add j) = some u := by
  obtain ⟨_, hl, hat⟩ := World.cells?_some hc
  obtain ⟨v0, v1, v2, v3, v4, rfl⟩ := five hl
  obtain ⟨ys, n, _, _, _, hlen, hf⟩ := DataW.trod_struct Try.underlying35 h
  have hy : ∀ j, j < 3 → ∃ y, ys[j]? = some y := fun j hj => ⟨ys[j]'(by simpa [hlen] using hj), List.getElem?_eq_getElem _⟩
  obtain ⟨y0, e0⟩ := hy 0 (by omega)
  obtain ⟨y1, e1⟩ := hy 1 (by omega)
  obtain ⟨y2, e2⟩ := hy 2 (by omega)
  have t0 : DataW.trod enc Try.prog W 0 (fun _ => true) true n 31 (([v0, v1, v2, v3, v4].drop 0).take (Try.prog.cellsOf 31)) = ys[0]? := hf 0 _ rfl
  rw [c31, e0] at t0
  replace t0 : DataW.trod enc Try.prog W 0 (fun _ => true) true n 31 [v0, v1, v2] = some _ := t0
  have t1 : DataW.trod enc Try.prog W 0 (fun _ => true) true n 3 (([v0, v1, v2, v3, v4].drop 3).take (Try.prog.cellsOf 3)) = ys[1]? := hf 1 _ rfl
  rw [c3, e1] at t1
  replace t1 : DataW.trod enc Try.prog W 0 (fun _ => true) true n 3 [v3] = some _ := t1
  have t2 : DataW.trod enc Try.prog W 0 (fun _ => true) true n 33 (([v0, v1, v2, v3, v4].drop 4).take (Try.prog.cellsOf 33)) = ys[2]? := hf 2 _ rfl
  rw [c33, e2] at t2
  replace t2 : DataW.trod enc Try.prog W 0 (fun _ => true) true n 33 [v4] = some _ := t2
  obtain ⟨zs, n2, _, _, _, hlen2, hf2⟩ := DataW.trod_struct Try.underlying31 t0
  have hz : ∀ j, j < 3 → ∃ y, zs[j]? = some y := fun j hj => ⟨zs[j]'(by simpa [hlen2] using hj), List.getElem?_eq_getElem _⟩
  obtain ⟨x0, g0⟩ := hz 0 (by omega)
  obtain ⟨x1, g1⟩ := hz 1 (by omega)
  obtain ⟨x2, g2⟩ := hz 2 (by omega)
  have s0 : DataW.trod enc Try.prog W 0 (fun _ => true) true n2 3 (([v0, v1, v2].drop 0).take (Try.prog.cellsOf 3)) = zs[0]? := hf2 0 _ rfl
  rw [c3, g0] at s0
  replace s0 : DataW.trod enc Try.prog W 0 (fun _ => true) true n2 3 [v0] = some _ := s0
  have s1 : DataW.trod enc Try.prog W 0 (fun _ => true) true n2 3 (([v0, v1, v2].drop 1).take (Try.prog.cellsOf 3)) = zs[1]? := hf2 1 _ rfl
  rw [c3, g1] at s1
  replace s1 : DataW.trod enc Try.prog W 0 (fun _ => true) true n2 3 [v1] = some _ := s1
  have s2 : DataW.trod enc Try.prog W 0 (fun _ => true) true n2 29 (([v0, v1, v2].drop 2).take (Try.prog.cellsOf 29)) = zs[2]? := hf2 2 _ rfl
  rw [c29, g2] at s2
  replace s2 : DataW.trod enc Try.prog W 0 (fun _ => true) true n2 29 [v2] = some _ := s2
  obtain ⟨z0, h0, _, w0⟩ := DataW.trod_int Try.underlying3 s0
  obtain ⟨z1, h1, _, w1⟩ := DataW.trod_int Try.underlying3 s1
  obtain ⟨z3, h3, _, w3⟩ := DataW.trod_int Try.underlying3 t1
  obtain ⟨fs, hfs, wfs⟩ := files_of s2
  obtain ⟨ks, hks, wks⟩ := ints_of t2
  cases h0; cases h1; cases h3
  simp [Lit.wf, IntKind.min, IntKind.max, IntKind.signed, IntKind.bits] at w3
  refine ⟨⟨⟨z0, z1, fs⟩, z3, ks⟩, ⟨wfs, by show _ ≤ z3; omega, by show z3 ≤ _; omega, wks⟩, v2, v4, hfs, hks, fun j u hj => ?_⟩
  unfold trC at hj
  match j, hj with
  | 0, hj => cases hj; exact hat 0 (by omega)
  | 1, hj => cases hj; exact hat 1 (by omega)
  | 2, hj => cases hj; exact hat 2 (by omega)
  | 3, hj => cases hj; exact hat 3 (by omega)
  | 4, hj => cases hj; exact hat 4 (by omega)
  | j + 5, hj => simp at hj

theorem tries_of {H : Type} {enc : TypeId × Value → H} {W : World} {fuel : Nat} {v : Value} {x : DataW H × List MemPlace}
    (h : DataW.trod enc Try.prog W 0 (fun _ => true) true fuel 22 [v] = some x) : ∃ l : List Tr, Tries W v l ∧ ∀ t ∈ l, t.wf := by
  rcases open_slice Try.underlying22 h with ⟨hc, _⟩ | ⟨a, len, cap, m, n, D, Pl, hc, _, hl, hm, hmm, _, hi⟩
  · cases hc
    exact ⟨[], ⟨none, 0, rfl, Nat.le_refl _, Nat.zero_le _, fun j a hj => by simp at hj⟩, by simp⟩
  · cases hc
    have hm' : m = cap := by simpa using hmm
    subst hm'
    obtain ⟨l, hll, hq⟩ := collect (fun i (t : Tr) => t.wf ∧ ∃ vf vk, Files W vf t.m.files ∧ Ints W vk t.keep ∧ ∀ j u, (trC t vf vk)[j]? = some u → W.cell? (a.add (i * 5 + j)) = some u) len (fun i hil => by
      obtain ⟨cs', hc, ht⟩ := hi i (by omega)
      rw [c35] at hc
      obtain ⟨t, hw, vf, vk, hf, hk, hcs⟩ := try_of hc ht
      exact ⟨t, hw, vf, vk, hf, hk, fun j u hj => by rw [← Go.Deep.add_add]; exact hcs j u hj⟩)
    refine ⟨l, ⟨some a, m, by rw [hll], by omega, hm, fun i t ht => ?_⟩, fun t ht => ?_⟩
    · obtain ⟨_, vf, vk, h1, h2, h3⟩ := hq i t ht
      exact ⟨a, vf, vk, rfl, h1, h2, h3⟩
    · obtain ⟨i, hi, rfl⟩ := List.getElem_of_mem ht
      exact (hq i _ (List.getElem?_eq_getElem hi)).1

set_option maxRecDepth 100000 in
theorem lifted (os : Os) (started : os.Started) (H : Type) (enc : TypeId × Value → H) :
    ReturnsInHanded {} Try.checked os 3 .any (Rows.commitWholeSpec.pre6 enc Try.prog Try.f3 Rows.commitWholeRow.domain false) (Rows.commitWholeSpec.post enc Try.prog Try.f3 false true false false) := by
  refine returnsInHanded_of_change (C := Try.checked) own started (by kernel_rfl) Try.func3
    (ChangeSpec.witness6 (enc := enc) (C := Try.checked) false ⟨#[], #[.slice none 0 0], []⟩ 8 (by kernel_rfl) (by kernel_rfl) (by kernel_rfl) (by kernel_rfl)) ?_
  intro W base args ds gs before hval0 hW hcnd _
  have hval : ∀ (j : Nat) t v, Try.f3.params[j]? = some t → args[j]? = some v → Value.okWide Try.prog W .any base t v := hval0
  have hW' := hW
  obtain ⟨p, q, hA0, hV, rfl, hfz, hnd⟩ := hW
  have hA : DataW.TrodAll enc Try.prog W 0 (fun _ => true) true Try.f3.params.toList args.toList ds p := hA0
  rw [Try.params3] at hA hval
  obtain ⟨v0, vs0, d0, ds0, p0, q0, hargs, rfl, rfl, h0, r0⟩ := trodAll_cons hA
  obtain ⟨rfl, rfl, rfl⟩ := trodAll_nil r0
  obtain rfl : args = #[v0] := by cases args; simp_all
  obtain ⟨rfl, rfl⟩ := trodVars_none hV
  obtain ⟨A, len, cap, rfl⟩ := okWide_slice Try.underlying22 (hval 0 22 v0 rfl rfl)
  have k0 := h0
  obtain ⟨fuel, hf⟩ := h0
  obtain ⟨l, hl, hwf⟩ := tries_of hf
  have lt0 : ∀ x ∈ p0, x.block < W.heap.size := fun x hx => DataW.trod_lt _ _ _ _ hf x hx
  clear hA0 hval0
  simp only [List.append_nil] at hW'
  refine (whole_walk _ l W hl hwf).mono fun e W' ⟨he, bel⟩ => ?_
  subst he
  exact ⟨_, rfl, _, _, _, [], _, [], hW', trodAll_mk1 (shut_bool Try.underlying4 _),
    trodAll_cons_mk (Below.trod laidOut (by kernel_rfl) (of_decide_eq_true (by kernel_rfl)) k0 bel lt0) trodAll_mk0, rfl, bel.frame _, fun h => by cases h⟩

theorem said : Rows.CommitWholeSaid :=
  OpenClaim.holds_of_wide 3 Try.f3 rfl rfl rfl rfl rfl rfl rfl ⟨rfl, rfl, rfl, rfl, rfl⟩ rfl rfl rfl rfl rfl (by kernel_rfl) Try.func3 (by kernel_rfl)
    (of_decide_eq_true (by kernel_rfl)) (by unfold Func.isWrapper; first | (rw [if_pos (by decide +kernel)]; kernel_rfl) | (rw [if_neg (by decide +kernel)]; exact ⟨rfl, rfl⟩))
    (fun os started H enc _ => lifted os started H enc)
end Go.Proofs.Ytdmmfeglnmkmdaa.whole

namespace Go.Proofs.Ytdmmfeglnmkmdaa
/-- CommitWhole returns true, for every input. -/
theorem commitWholeHolds : Rows.CommitWholeSaid := whole.said
end Go.Proofs.Ytdmmfeglnmkmdaa
