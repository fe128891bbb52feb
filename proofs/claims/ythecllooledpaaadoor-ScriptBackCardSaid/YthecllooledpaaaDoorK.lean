/- script.Parse gives back the act of an act's own line. -/
import Derived.Test.YthecllooledpaaaDoorP2
namespace Go.Proofs.YthecllooledpaaaDoor
open Go.RowKit Plain

theorem bs_eta (s : ByteArray) : (⟨s.data.toList.toArray⟩ : ByteArray) = s := bytes_ext rfl
theorem bs_empty {s : ByteArray} (h : s.toList = []) : s = ⟨#[]⟩ := by
  apply bytes_ext
  rw [ByteArray.toList_eq] at h
  exact h
theorem mayB_mem {ks : List Int} (h : mayB ks = true) : ∀ n ∈ ks, far n = false := by
  intro n hn
  unfold mayB at h
  have := List.all_eq_true.1 h n hn
  simpa using this
theorem letters_no (s : List UInt8) (h : lettersB s = true) (c : UInt8) (hc : letterB (c.toNat : Int) = false) : c ∉ s := by
  intro hm
  unfold lettersB at h
  have := List.all_eq_true.1 h c hm
  rw [hc] at this
  cases this
theorem name_letters (s : List UInt8) (h : nameB s = true) : lettersB s = true ∧ s ≠ [] := by
  unfold nameB at h
  simp at h
  exact ⟨h.1, fun e => by rw [e] at h; simp at h⟩

theorem act_line (a : Act) (hs : a.small) (hr : a.right = true) (w : World) (hf : Fit w) :
    Calls Tryd.prog 19 #[.string ⟨a.line.toArray⟩] w (ActPost a.kind a.name a.s a.n a.bits a.keep w) := by
  obtain ⟨k, nm, s, n, b, ks⟩ := a
  obtain ⟨h1, h2, h3, h4, h5, h6, h7, h8⟩ := hs
  unfold Act.right at hr
  unfold Act.line
  simp only at *
  have hR := hr
  unfold rightV at hr
  simp only [Bool.and_eq_true, decide_eq_true_eq] at hr
  obtain ⟨⟨⟨⟨k0, k5⟩, hn⟩, hks⟩, hk⟩ := hr
  have hfar := mayB_mem hn n (by simp)
  have hfks := mayB_mem hks
  have hnl : nm.data.toList.length ≤ 40 := by rw [Array.length_toList]; exact h1
  have hsl : s.data.toList.length ≤ 400 := by rw [Array.length_toList]; exact h2
  unfold rightK at hk
  by_cases c0 : k = 0
  · subst c0
    simp at hk
    obtain ⟨⟨⟨hn0, hb0⟩, hl0⟩, hname⟩ := hk
    subst hn0 hb0 hl0
    have h32 : 32 ∉ nm.data.toList := by rw [ByteArray.toList_eq] at hname; rcases hname with h | h <;> (rw [h]; decide)
    by_cases ht : s.data.toList = []
    · have e : s = ⟨#[]⟩ := bytes_ext (by rw [ht])
      subst e
      have H := act_0n nm.data.toList hnl h32 w hf (by rw [bs_eta]; exact hR)
      rw [bs_eta] at H
      have hl : lineL 0 nm.data.toList (ByteArray.mk #[]).data.toList 0 0 [] = putL ++ 32 :: (nm.data.toList ++ 32 :: [45]) := by
        unfold lineL wordsL
        rw [if_pos rfl, join_two, join_two, Lib.join_one]
        rfl
      rw [hl]
      exact H
    · have H := act_0 nm.data.toList s.data.toList hnl h32 ht hsl w hf (by rw [bs_eta, bs_eta]; exact hR)
      rw [bs_eta, bs_eta] at H
      have hl : lineL 0 nm.data.toList s.data.toList 0 0 [] = putL ++ 32 :: (nm.data.toList ++ 32 :: hexL s.data.toList) := by
        unfold lineL wordsL
        rw [if_pos rfl, join_two, join_two, Lib.join_one]
        unfold orL
        rw [if_neg]
        intro h
        have hh := hexL_length s.data.toList
        rw [List.isEmpty_iff.1 h, List.length_nil] at hh
        exact ht (List.eq_nil_of_length_eq_zero (by omega))
      rw [hl]
      exact H
  by_cases c1 : k = 1
  · subst c1
    simp at hk
    obtain ⟨⟨⟨⟨e1, e2⟩, e3⟩, e4⟩, e5⟩ := hk
    have e1 := bs_empty e1; have e2 := bs_empty e2; subst e1 e2 e3 e4 e5
    exact act_1 w hf hR
  by_cases c2 : k = 2
  · subst c2
    simp at hk
    obtain ⟨⟨⟨e1, e2⟩, e4⟩, e5⟩ := hk
    have e1 := bs_empty e1; have e2 := bs_empty e2; subst e1 e2 e4 e5
    have hl : lineL 2 (ByteArray.mk #[]).data.toList (ByteArray.mk #[]).data.toList n 0 [] = armL ++ 32 :: Lib.itoa n := by
      unfold lineL wordsL
      simp only [show ¬ ((2 : Int) = 0) by decide, show ¬ ((2 : Int) = 1) by decide, if_false, if_true]
      rw [join_two, Lib.join_one]
    rw [hl]
    exact act_2 n hfar w hf hR
  by_cases c3 : k = 3
  · subst c3
    simp at hk
    obtain ⟨⟨⟨e1, e2⟩, e3⟩, e4⟩ := hk
    have e1 := bs_empty e1; have e2 := bs_empty e2; subst e1 e2 e3 e4
    have hl : lineL 3 (ByteArray.mk #[]).data.toList (ByteArray.mk #[]).data.toList 0 0 ks = riseL ++ 32 :: orL (Lib.join (ks.map Lib.itoa) [44]) := by
      unfold lineL wordsL
      simp only [show ¬ ((3 : Int) = 0) by decide, show ¬ ((3 : Int) = 1) by decide, show ¬ ((3 : Int) = 2) by decide, if_false, if_true]
      rw [join_two, Lib.join_one]
    rw [hl]
    by_cases hne : ks = []
    · subst hne
      exact act_3n w hf hR
    · have : orL (Lib.join (ks.map Lib.itoa) [44]) = Lib.join (ks.map Lib.itoa) [44] := by
        unfold orL
        rw [if_neg]
        intro h
        rw [List.isEmpty_iff] at h
        cases ks with
        | nil => exact hne rfl
        | cons x r =>
          rw [List.map_cons, Lib.join_cons] at h
          exact itoa_ne x (List.append_eq_nil_iff.1 h).1
      rw [this]
      exact act_3 ks hne h3 hfks w hf hR
  by_cases c4 : k = 4
  · subst c4
    simp at hk
    obtain ⟨⟨e2, e5⟩, hname⟩ := hk
    have e2 := bs_empty e2; subst e2 e5
    have hlet := name_letters _ hname
    have H := act_4 nm.data.toList hnl (letters_no _ hlet.1 32 (by decide)) n b hfar h6 h7 w hf (by rw [bs_eta]; exact hR)
    rw [bs_eta] at H
    have hl : lineL 4 nm.data.toList (ByteArray.mk #[]).data.toList n b [] = turnL ++ 32 :: (nm.data.toList ++ 32 :: (Lib.itoa n ++ 32 :: Lib.itoa b)) := by
      unfold lineL wordsL
      simp only [show ¬ ((4 : Int) = 0) by decide, show ¬ ((4 : Int) = 1) by decide, show ¬ ((4 : Int) = 2) by decide, show ¬ ((4 : Int) = 3) by decide, if_false, if_true]
      rw [join_two, join_two, join_two, Lib.join_one]
    rw [hl]
    exact H
  obtain rfl : k = 5 := by omega
  simp at hk
  obtain ⟨⟨⟨⟨e1, e2⟩, e3⟩, e4⟩, e5⟩ := hk
  have e1 := bs_empty e1; have e2 := bs_empty e2; subst e1 e2 e3 e4 e5
  exact act_5 w hf hR

theorem parse_line (a : Act) (hs : a.small) (hr : a.right = true) (w : World) (hf : Fit w) :
    Calls Tryd.prog 11 #[.string ⟨a.line.toArray⟩] w (ParsePost a.kind a.name a.s a.n a.bits a.keep w) :=
  parse_yes _ _ _ _ _ _ _ (fun w hf => act_line a hs hr w hf) w hf

/-- An act's line has no line's end, does not begin with a number sign, and is not empty. -/
theorem line_plain (a : Act) (hr : a.right = true) : 10 ∉ a.line ∧ ∃ c r, a.line = c :: r ∧ c ≠ 35 := by
  obtain ⟨k, nm, s, n, b, ks⟩ := a
  unfold Act.right rightV at hr
  unfold Act.line lineL
  simp only at *
  simp only [Bool.and_eq_true, decide_eq_true_eq] at hr
  obtain ⟨⟨⟨⟨k0, k5⟩, hn⟩, hks⟩, hk⟩ := hr
  unfold rightK at hk
  have hit : ∀ m : Int, 10 ∉ Lib.itoa m := fun m => itoa_no m 10 (by unfold digitB; decide) (by decide)
  have hor : ∀ l : List UInt8, 10 ∉ l → 10 ∉ orL l := by
    intro l hl
    unfold orL
    split
    · decide
    · exact hl
  have hw : (∀ y ∈ wordsL k nm.data.toList s.data.toList n b ks, 10 ∉ y) ∧ ∃ c x r, wordsL k nm.data.toList s.data.toList n b ks = (c :: x) :: r ∧ c ≠ 35 := by
    unfold wordsL
    by_cases c0 : k = 0
    · subst c0
      simp at hk
      obtain ⟨_, hname⟩ := hk
      rw [ByteArray.toList_eq] at hname
      rw [if_pos rfl]
      refine ⟨fun y hy => ?_, 112, _, _, rfl, by decide⟩
      simp only [List.mem_cons, List.not_mem_nil, or_false] at hy
      rcases hy with rfl | rfl | rfl
      · decide
      · rcases hname with h | h <;> (rw [h]; decide)
      · exact hor _ (hex_no 10 (by decide) _)
    rw [if_neg c0]
    by_cases c1 : k = 1
    · rw [if_pos c1]
      exact ⟨fun y hy => by simp only [List.mem_cons, List.not_mem_nil, or_false] at hy; subst hy; decide, 114, _, _, rfl, by decide⟩
    rw [if_neg c1]
    by_cases c2 : k = 2
    · rw [if_pos c2]
      refine ⟨fun y hy => ?_, 97, _, _, rfl, by decide⟩
      simp only [List.mem_cons, List.not_mem_nil, or_false] at hy
      rcases hy with rfl | rfl
      · decide
      · exact hit n
    rw [if_neg c2]
    by_cases c3 : k = 3
    · rw [if_pos c3]
      refine ⟨fun y hy => ?_, 114, _, _, rfl, by decide⟩
      simp only [List.mem_cons, List.not_mem_nil, or_false] at hy
      rcases hy with rfl | rfl
      · decide
      · exact hor _ (join_no 10 44 (by decide) _ (fun z hz => by obtain ⟨m, _, rfl⟩ := List.mem_map.1 hz; exact hit m))
    rw [if_neg c3]
    by_cases c4 : k = 4
    · subst c4
      simp at hk
      obtain ⟨_, hname⟩ := hk
      have hlet := name_letters _ hname
      rw [if_pos rfl]
      refine ⟨fun y hy => ?_, 116, _, _, rfl, by decide⟩
      simp only [List.mem_cons, List.not_mem_nil, or_false] at hy
      rcases hy with rfl | rfl | rfl | rfl
      · decide
      · exact letters_no _ hlet.1 10 (by decide)
      · exact hit n
      · exact hit b
    rw [if_neg c4]
    exact ⟨fun y hy => by simp only [List.mem_cons, List.not_mem_nil, or_false] at hy; subst hy; decide, 99, _, _, rfl, by decide⟩
  refine ⟨join_no 10 32 (by decide) _ hw.1, ?_⟩
  obtain ⟨c, x, r, he, hc⟩ := hw.2
  rw [he, Lib.join_cons]
  exact ⟨c, _, rfl, hc⟩
end Go.Proofs.YthecllooledpaaaDoor
