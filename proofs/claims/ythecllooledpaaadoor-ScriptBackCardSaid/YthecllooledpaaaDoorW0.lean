/- chainmanlaw42.ScriptBack returns true: the walk. -/
import Derived.Test.YthecllooledpaaaDoorF
namespace Go.Proofs.YthecllooledpaaaDoor
open Go.RowKit Plain

structure Act.wf (a : Act) : Prop where
  n0 : -9223372036854775808 ≤ a.n
  n1 : a.n ≤ 9223372036854775807
  b0 : 0 ≤ a.bits
  b1 : a.bits < 4294967296
  ks : ∀ n ∈ a.keep, -9223372036854775808 ≤ n ∧ n ≤ 9223372036854775807
theorem few_small {l : List Act} (h : fewB l = true) (hw : ∀ a ∈ l, a.wf) : l.length ≤ 70 ∧ ∀ a ∈ l, a.small := by
  unfold fewB at h
  simp only [Bool.and_eq_true, decide_eq_true_eq] at h
  obtain ⟨h1, h2⟩ := h
  rw [List.take_of_length_le h2] at h1
  refine ⟨h2, fun a ha => ?_⟩
  have h3 := List.all_eq_true.1 h1 a ha
  unfold smallB at h3
  simp only [Bool.and_eq_true, decide_eq_true_eq] at h3
  have w := hw a ha
  exact ⟨h3.1.2, h3.1.1, h3.2, w.n0, w.n1, w.b0, w.b1, w.ks⟩
theorem pieces_lines (l : List Act) (hr : ∀ a ∈ l, a.right = true) (t : List UInt8) (ht : 10 ∉ t) : pieces 10 (linesL l ++ t) = l.map Act.line ++ [t] := by
  induction l with
  | nil => simp only [linesL, List.flatMap_nil, List.nil_append, List.map_nil]; exact pieces_miss 10 t ht
  | cons a l ih =>
    have e : linesL (a :: l) ++ t = a.line ++ 10 :: (linesL l ++ t) := by simp [linesL, List.flatMap_cons]
    rw [e, pieces_hit 10 _ _ (line_plain a (hr a List.mem_cons_self)).1, ih (fun x hx => hr x (List.mem_cons_of_mem _ hx))]
    rfl
def wholeL (more : List UInt8) (l : List Act) : List UInt8 := (35 :: more) ++ 10 :: ([] ++ 10 :: (linesL l ++ [35, 32, 101, 110, 100]))
def itemsL (more : List UInt8) (l : List Act) : List Item := .skip more :: .none_ :: (l.map Item.act ++ [.skip [32, 101, 110, 100]])
theorem pieces_whole (more : List UInt8) (hm : 10 ∉ more) (l : List Act) (hr : ∀ a ∈ l, a.right = true) : pieces 10 (wholeL more l) = (itemsL more l).map Item.txt := by
  unfold wholeL
  rw [pieces_hit 10 (35 :: more) _ (by intro h; rcases List.mem_cons.1 h with h | h; cases h; exact hm h), pieces_hit 10 [] _ (by simp), pieces_lines l hr _ (by decide)]
  unfold itemsL
  simp [Item.txt]
theorem acts_whole (more : List UInt8) (l : List Act) : actsOf (itemsL more l) = l := by
  unfold actsOf itemsL
  simp [List.flatMap_cons, Item.acts]
  induction l with
  | nil => rfl
  | cons a l ih => simp [List.flatMap_cons, Item.acts] at *; exact ih
theorem take_snoc (s : ByteArray) (k : Nat) (h : k < s.size) : s.data.toList.take (k + 1) = s.data.toList.take k ++ [s[k]] := by
  rw [List.take_succ_eq_append_getElem (by simpa using h)]; rfl
theorem whole_bytes (more : ByteArray) (l : List Act) :
    ((((⟨#[35]⟩ : ByteArray) ++ more) ++ ⟨#[10, 10]⟩) ++ ⟨(linesL l).toArray⟩) ++ ⟨#[35, 32, 101, 110, 100]⟩ = ⟨(wholeL more.data.toList l).toArray⟩ := by
  apply bytes_ext
  simp [ByteArray.data_append, wholeL]
theorem whole_length (more : List UInt8) (l : List Act) : (wholeL more l).length = more.length + (linesL l).length + 8 := by
  unfold wholeL
  simp
  omega

set_option maxHeartbeats 8000000 in
set_option maxRecDepth 100000 in
theorem back_walk (v : Value) (l : List Act) (more : ByteArray) (w : World) (hf : Fit w) (hl : Acts w v l) (hw : ∀ a ∈ l, a.wf) (hm : more.size ≤ 9223372036854775807) :
    Calls Tryd.prog 3 #[v, .string more] w fun e w' => e = .returned (.bool true) ∧ Below w.heap.size w w' := by
  have HW := Lib.hid hw
  clear hw
  cases hfew : fewB l
  · have HF := Lib.hid hfew
    clear hfew
    go_enter Tryd.func3, Tryd.ntmps3
    go_wp2_with fail
    refine (few_any _ _ _ hl).mono ?_
    rintro e w1 ⟨rfl, rfl⟩
    rw [HF.out]
    go_wp2_with fail
    refine (awake_any _ hf).mono ?_
    rintro e w2 ⟨rfl, hb⟩
    go_wp2
    go_ret
    exact ⟨rfl, hb⟩
  obtain ⟨h70, hsm⟩ := few_small hfew HW.out
  have HF := Lib.hid hfew
  have HS := Lib.hid hsm
  clear hfew hsm
  by_cases h40 : more.size ≤ 40
  case neg =>
    have h41 : 40 < more.size := by omega
    clear h40
    go_enter Tryd.func3, Tryd.ntmps3
    go_wp2_with fail
    refine (few_any _ _ _ hl).mono ?_
    rintro e w1 ⟨rfl, rfl⟩
    rw [HF.out]
    go_wp2_with fail
    refine (awake_any _ hf).mono ?_
    rintro e w2 ⟨rfl, hb⟩
    go_wp2
    go_ret
    exact ⟨rfl, hb⟩
  go_enter Tryd.func3, Tryd.ntmps3
  go_wp2_with fail
  refine (few_any _ _ _ hl).mono ?_
  rintro e w1 ⟨rfl, rfl⟩
  rw [HF.out]
  go_wp2_with fail
  go_loop [5] (fun i => ∃ k : Nat, k ≤ more.size ∧ i = .int .i64 k ∧ Hid (10 ∉ more.data.toList.take k)) (fun i => more.size - (intOf i).toNat)
  case atStart => exact ⟨0, Nat.zero_le _, rfl, by unfold Hid; simp⟩
  case round =>
    obtain ⟨k, hk, rfl, hno⟩ := hrel
    by_cases hlt : k < more.size
    · have hsn : Hid (more.data.toList.take (k + 1) = more.data.toList.take k ++ [more[k]]) := take_snoc more k hlt
      by_cases hc : more[k] = 10
      · have hcb : ((more[k].toNat : Int) == 10) = true := by rw [hc]; rfl
        clear hc hsn
        go_wp2_with fail
        refine (awake_any _ hf).mono ?_
        rintro e w2 ⟨rfl, hb⟩
        go_wp2
        go_ret
        exact ⟨rfl, hb⟩
      · have hcb : ((more[k].toNat : Int) == 10) = false := by
          rw [beq_eq_false_iff_ne]
          intro h
          exact hc (UInt8.toNat_inj.1 (by have h2 : (more[k].toNat : Int) = 10 := h; have h3 : (10 : UInt8).toNat = 10 := rfl; omega))
        have hn2 : Hid (10 ∉ more.data.toList.take (k + 1)) := by
          unfold Hid
          rw [hsn.out]
          intro h
          rcases List.mem_append.1 h with h | h
          · exact hno.out h
          · simp at h
            exact hc h.symm
        clear hc hsn
        go_wp2_with fail
        go_round
        case rel => exact ⟨k + 1, by omega, by go_num, hn2⟩
        case measure => simp [intOf]; omega
    · have hks : k = more.size := by omega
      subst hks
      have hno2 : Hid (10 ∉ more.data.toList) := by
        have h := hno.out
        unfold Hid
        rwa [show more.size = more.data.toList.length by rw [Array.length_toList]; rfl, List.take_length] at h
      clear hno hk
      go_wp2_with fail
      refine (list_any _ _ _ hl h70).mono ?_
      rintro e w1 ⟨v1, rfl, ha1, hb1⟩
      by_cases h64 : 64 < l.length
      · go_wp2_with fail
        refine (text_long _ _ _ ha1 h64).mono ?_
        rintro e w2 ⟨rfl, hb2⟩
        have hx2 := keepBelow hb1 hb2
        go_wp2_with fail
        refine (awake_any _ (hf.below hx2)).mono ?_
        rintro e w3 ⟨rfl, hb3⟩
        have hx3 := keepBelow hx2 hb3
        go_wp2
        go_ret
        exact ⟨rfl, hx3⟩
      cases hall : allB l
      · have hT := Lib.hid (textR_no hall)
        have HA := Lib.hid hall
        clear hall
        go_wp2_with fail
        refine (text_any _ _ _ (hf.below hb1) ha1 h64 HS.out).mono ?_
        rintro e w2 ⟨rfl, hb2⟩
        rw [hT.out, HA.out]
        have hx2 := keepBelow hb1 hb2
        go_wp2_with fail
        refine (awake_any _ (hf.below hx2)).mono ?_
        rintro e w3 ⟨rfl, hb3⟩
        have hx3 := keepBelow hx2 hb3
        go_wp2
        go_ret
        exact ⟨rfl, hx3⟩
      have hT := Lib.hid (textR_yes hall)
      have HA := Lib.hid hall
      have hlen := lines_length l HS.out (by omega)
      clear hall
      go_wp2_with fail
      refine (text_any _ _ _ (hf.below hb1) ha1 h64 HS.out).mono ?_
      rintro e w2 ⟨rfl, hb2⟩
      rw [hT.out, HA.out]
      have hx2 := keepBelow hb1 hb2
      clear ha1
      go_wp2_with fail
      rw [whole_bytes]
      have hra : ∀ a ∈ l, a.right = true := fun a ha => List.all_eq_true.1 HA.out a ha
      have hml : more.data.toList.length ≤ 40 := by rw [Array.length_toList]; exact h40
      refine (read_any (wholeL more.data.toList l) (itemsL more.data.toList l) (pieces_whole _ hno2.out l hra) ?_ ?_ ?_ ?_ _ (hf.below hx2)).mono ?_
      · intro i hi
        unfold itemsL at hi
        simp only [List.mem_cons, List.mem_append, List.mem_map, List.not_mem_nil, or_false] at hi
        rcases hi with rfl | rfl | ⟨a, ha, rfl⟩ | rfl
        · trivial
        · trivial
        · exact ⟨HS.out a ha, hra a ha⟩
        · trivial
      · rw [whole_length]; omega
      · rw [acts_whole]; omega
      · unfold itemsL; simp; omega
      rintro e w3 ⟨x, rfl, hax, hb3⟩
      rw [acts_whole] at hax
      have hx3 := keepBelow hx2 hb3
      clear hra hml hb2 hb3 hb1 hlen
      go_wp2_with fail
      refine (back_any _ _ _ hax h70).mono ?_
      rintro e w4 ⟨y, rfl, hay, hb4⟩
      have hx4 := keepBelow hx3 hb4
      clear hax hb4
      go_wp2_with fail
      refine (same_any _ _ _ _ hay (hl.below hx4)).mono ?_
      rintro e w5 ⟨rfl, hb5⟩
      have hx5 := keepBelow hx4 hb5
      clear hay hb5
      go_wp2_with fail
      refine (awake_any _ (hf.below hx5)).mono ?_
      rintro e w6 ⟨rfl, hb6⟩
      have hx6 := keepBelow hx5 hb6
      go_wp2
      go_ret
      exact ⟨rfl, hx6⟩
end Go.Proofs.YthecllooledpaaaDoor
