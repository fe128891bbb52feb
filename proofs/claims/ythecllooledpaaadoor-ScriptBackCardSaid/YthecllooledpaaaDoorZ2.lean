/- script.act at an act's own line: put, arm, rise, turn, clear. -/
import Derived.Test.YthecllooledpaaaDoorZ
namespace Go.Proofs.YthecllooledpaaaDoor
open Go.RowKit Plain

theorem join_no (c d : UInt8) (hcd : c ≠ d) : ∀ (l : List (List UInt8)), (∀ y ∈ l, c ∉ y) → c ∉ Lib.join l [d]
  | [], _ => by simp [Lib.join_nil]
  | [x], h => by rw [Lib.join_one]; exact h x List.mem_cons_self
  | x :: y :: r, h => by
    rw [join_two]
    intro hc
    rcases List.mem_append.1 hc with hc | hc
    · exact h x List.mem_cons_self hc
    · rcases List.mem_cons.1 hc with hc | hc
      · exact hcd hc
      · exact join_no c d hcd (y :: r) (fun z hz => h z (List.mem_cons_of_mem _ hz)) hc
theorem hex_no (c : UInt8) (h : c ∉ hexDigits) (t : List UInt8) : c ∉ hexL t := by
  intro hc
  unfold hexL at hc
  obtain ⟨x, _, hx⟩ := List.mem_flatMap.1 hc
  have h0 := x.toNat_lt
  have H : ∀ m : Fin 16, hexD m.val ∈ hexDigits := by decide
  simp at hx
  rcases hx with rfl | rfl
  · exact h (H ⟨x.toNat / 16, by omega⟩)
  · exact h (H ⟨x.toNat % 16, by omega⟩)
theorem own_slice3 {w : World} {base : Nat} {v : Value} {ks : List Int} (h : w.ownsRow base 3 1 v ks.length (intV ks)) : ∃ A c, v = .slice A ks.length c := by
  rcases h.2 with ⟨rfl, h0⟩ | ⟨g, cap, cur, rfl, _⟩
  · rw [h0]; exact ⟨none, 0, rfl⟩
  · exact ⟨_, cap, rfl⟩

set_option maxHeartbeats 8000000 in
set_option maxRecDepth 100000 in
theorem act_5  (w : World) (hf : Fit w) (hr : rightV 5 ⟨#[]⟩ ⟨#[]⟩ 0 0 [] = true) : Calls Tryd.prog 19 #[.string ⟨(clearL).toArray⟩] w (ActPost 5 ⟨#[]⟩ ⟨#[]⟩ 0 0 [] w) := by
  have st := St.start w (clearL)
  have HR := Lib.hid hr
  clear hr
  go_enter Tryd.func19, Tryd.ntmps19
  go_wp2_with fail
  refine (show Calls _ _ _ (actW w (clearL)) _ from word_any _ (clearL) (clearL) ([]) false _ (hf.below st.bel) st.cur (by decide) (by decide +kernel)).mono ?_
  rintro e w1 ⟨rfl, hc, ho⟩
  replace st := st.only ho hc
  clear ho hc
  obtain ⟨a0, a1, a2, a3, a4, a5, af, cm⟩ := St.cells st
  replace st := St.set st 5 ⟨#[]⟩ ⟨#[]⟩ 0 0 (.slice none 0 0)
  have hi := ints_of_own (ks := []) (nil_own (set6 w1 (w.heap.size + 1 + 1) 5 ⟨#[]⟩ ⟨#[]⟩ 0 0 (.slice none 0 0)) 0)
  go_wp2_with fail
  refine (show Calls _ _ _ (set6 w1 (w.heap.size + 1 + 1) 5 ⟨#[]⟩ ⟨#[]⟩ 0 0 (.slice none 0 0)) _ from right_v 5 ⟨#[]⟩ ⟨#[]⟩ 0 0 (.slice none 0 0) [] _ hi (by decide)).mono ?_
  rintro e w8 ⟨rfl, hb⟩
  rw [HR.out]
  replace st := st.below hb
  clear a0 a1 a2 a3 a4 a5 af cm
  obtain ⟨a0, a1, a2, a3, a4, a5, af, cm⟩ := St.cells st
  obtain ⟨p0, p1, p2, p3, p4, p5, pf⟩ := St.place st
  clear hb hi
  go_wp2_with fail
  refine (must_so _).mono ?_
  rintro e w9 ⟨rfl, rfl⟩
  go_wp2
  exact St.end_ st (nil_own _ _) _ rfl _ rfl

set_option maxHeartbeats 8000000 in
set_option maxRecDepth 100000 in
theorem act_2 (n : Int) (hfar : far n = false) (w : World) (hf : Fit w) (hr : rightV 2 ⟨#[]⟩ ⟨#[]⟩ n 0 [] = true) : Calls Tryd.prog 19 #[.string ⟨(armL ++ 32 :: Lib.itoa n).toArray⟩] w (ActPost 2 ⟨#[]⟩ ⟨#[]⟩ n 0 [] w) := by
  have hlen : Hid ((Lib.itoa n).length ≤ 21) := Lib.itoa_length_le n (by unfold far at hfar; simp at hfar; omega) (by unfold far at hfar; simp at hfar; omega)
  have st := St.start w (armL ++ 32 :: Lib.itoa n)
  have HR := Lib.hid hr
  clear hr
  go_enter Tryd.func19, Tryd.ntmps19
  go_wp2_with fail
  refine (show Calls _ _ _ (actW w (armL ++ 32 :: Lib.itoa n)) _ from word_any _ (armL ++ 32 :: Lib.itoa n) (armL) (Lib.itoa n) true _ (hf.below st.bel) st.cur (by have := hlen.out; simp [armL]; omega) (cut_hit 32 armL _ (by decide))).mono ?_
  rintro e w1 ⟨rfl, hc, ho⟩
  replace st := st.only ho hc
  clear ho hc
  go_wp2_with fail
  refine (word_any _ (Lib.itoa n) (Lib.itoa n) ([]) false _ (hf.below st.bel) st.cur (by have := hlen.out; omega) (cut_miss 32 _ (itoa_no n 32 (by unfold digitB; decide) (by decide)))).mono ?_
  rintro e w2 ⟨rfl, hc, ho⟩
  replace st := st.only ho hc
  clear ho hc
  go_wp2_with fail
  refine (number_itoa n hfar _ (hf.below st.bel)).mono ?_
  rintro e w3 ⟨rfl, hb⟩
  replace st := st.below hb
  clear hb
  obtain ⟨a0, a1, a2, a3, a4, a5, af, cm⟩ := St.cells st
  replace st := St.set st 2 ⟨#[]⟩ ⟨#[]⟩ n 0 (.slice none 0 0)
  have hi := ints_of_own (ks := []) (nil_own (set6 w3 (w.heap.size + 1 + 1) 2 ⟨#[]⟩ ⟨#[]⟩ n 0 (.slice none 0 0)) 0)
  go_wp2_with fail
  refine (show Calls _ _ _ (set6 w3 (w.heap.size + 1 + 1) 2 ⟨#[]⟩ ⟨#[]⟩ n 0 (.slice none 0 0)) _ from right_v 2 ⟨#[]⟩ ⟨#[]⟩ n 0 (.slice none 0 0) [] _ hi (by decide)).mono ?_
  rintro e w8 ⟨rfl, hb⟩
  rw [HR.out]
  replace st := st.below hb
  clear a0 a1 a2 a3 a4 a5 af cm
  obtain ⟨a0, a1, a2, a3, a4, a5, af, cm⟩ := St.cells st
  obtain ⟨p0, p1, p2, p3, p4, p5, pf⟩ := St.place st
  clear hb hi
  go_wp2_with fail
  refine (must_so _).mono ?_
  rintro e w9 ⟨rfl, rfl⟩
  go_wp2
  exact St.end_ st (nil_own _ _) _ rfl _ rfl

set_option maxHeartbeats 8000000 in
set_option maxRecDepth 100000 in
theorem act_3n  (w : World) (hf : Fit w) (hr : rightV 3 ⟨#[]⟩ ⟨#[]⟩ 0 0 [] = true) : Calls Tryd.prog 19 #[.string ⟨(riseL ++ 32 :: [45]).toArray⟩] w (ActPost 3 ⟨#[]⟩ ⟨#[]⟩ 0 0 [] w) := by
  have st := St.start w (riseL ++ 32 :: [45])
  have HR := Lib.hid hr
  clear hr
  go_enter Tryd.func19, Tryd.ntmps19
  go_wp2_with fail
  refine (show Calls _ _ _ (actW w (riseL ++ 32 :: [45])) _ from word_any _ (riseL ++ 32 :: [45]) (riseL) ([45]) true _ (hf.below st.bel) st.cur (by decide) (cut_hit 32 riseL _ (by decide))).mono ?_
  rintro e w1 ⟨rfl, hc, ho⟩
  replace st := st.only ho hc
  clear ho hc
  go_wp2_with fail
  refine (word_any _ ([45]) ([45]) ([]) false _ (hf.below st.bel) st.cur (by decide) (cut_miss 32 _ (by decide))).mono ?_
  rintro e w2 ⟨rfl, hc, ho⟩
  replace st := st.only ho hc
  clear ho hc
  go_wp2_with fail
  refine (numbers_dash _).mono ?_
  rintro e w3 ⟨rfl, rfl⟩
  obtain ⟨a0, a1, a2, a3, a4, a5, af, cm⟩ := St.cells st
  replace st := St.set st 3 ⟨#[]⟩ ⟨#[]⟩ 0 0 (.slice none 0 0)
  have hi := ints_of_own (ks := []) (nil_own (set6 w2 (w.heap.size + 1 + 1) 3 ⟨#[]⟩ ⟨#[]⟩ 0 0 (.slice none 0 0)) 0)
  go_wp2_with fail
  refine (show Calls _ _ _ (set6 w2 (w.heap.size + 1 + 1) 3 ⟨#[]⟩ ⟨#[]⟩ 0 0 (.slice none 0 0)) _ from right_v 3 ⟨#[]⟩ ⟨#[]⟩ 0 0 (.slice none 0 0) [] _ hi (by decide)).mono ?_
  rintro e w8 ⟨rfl, hb⟩
  rw [HR.out]
  replace st := st.below hb
  clear a0 a1 a2 a3 a4 a5 af cm
  obtain ⟨a0, a1, a2, a3, a4, a5, af, cm⟩ := St.cells st
  obtain ⟨p0, p1, p2, p3, p4, p5, pf⟩ := St.place st
  clear hb hi
  go_wp2_with fail
  refine (must_so _).mono ?_
  rintro e w9 ⟨rfl, rfl⟩
  go_wp2
  exact St.end_ st (nil_own _ _) _ rfl _ rfl

set_option maxHeartbeats 8000000 in
set_option maxRecDepth 100000 in
theorem act_3 (ks : List Int) (hne : ks ≠ []) (h12 : ks.length ≤ 12) (hfar : ∀ n ∈ ks, far n = false) (w : World) (hf : Fit w) (hr : rightV 3 ⟨#[]⟩ ⟨#[]⟩ 0 0 ks = true) : Calls Tryd.prog 19 #[.string ⟨(riseL ++ 32 :: Lib.join (ks.map Lib.itoa) [44]).toArray⟩] w (ActPost 3 ⟨#[]⟩ ⟨#[]⟩ 0 0 ks w) := by
  have hlen : Hid ((Lib.join (ks.map Lib.itoa) [44]).length ≤ 300) := itoas_length ks (fun n hn => by have h1 := hfar n hn; unfold far at h1; simp at h1; omega) h12
  have hsp : Hid (32 ∉ Lib.join (ks.map Lib.itoa) [44]) := join_no 32 44 (by decide) _ (fun y hy => by obtain ⟨m, _, rfl⟩ := List.mem_map.1 hy; exact itoa_no m 32 (by unfold digitB; decide) (by decide))
  have st := St.start w (riseL ++ 32 :: Lib.join (ks.map Lib.itoa) [44])
  have HR := Lib.hid hr
  clear hr
  go_enter Tryd.func19, Tryd.ntmps19
  go_wp2_with fail
  refine (show Calls _ _ _ (actW w (riseL ++ 32 :: Lib.join (ks.map Lib.itoa) [44])) _ from word_any _ (riseL ++ 32 :: Lib.join (ks.map Lib.itoa) [44]) (riseL) (Lib.join (ks.map Lib.itoa) [44]) true _ (hf.below st.bel) st.cur (by have := hlen.out; simp [riseL]; omega) (cut_hit 32 riseL _ (by decide))).mono ?_
  rintro e w1 ⟨rfl, hc, ho⟩
  replace st := st.only ho hc
  clear ho hc
  go_wp2_with fail
  refine (word_any _ (Lib.join (ks.map Lib.itoa) [44]) (Lib.join (ks.map Lib.itoa) [44]) ([]) false _ (hf.below st.bel) st.cur (by have := hlen.out; omega) (cut_miss 32 _ hsp.out)).mono ?_
  rintro e w2 ⟨rfl, hc, ho⟩
  replace st := st.only ho hc
  clear ho hc
  go_wp2_with fail
  refine (numbers_any ks hne h12 hfar _ (hf.below st.bel)).mono ?_
  rintro e w3 ⟨v, rfl, hw, hb⟩
  have hz := st.bel.size
  replace st := st.below hb
  replace hw := own_lower hw hz
  obtain ⟨A, c, rfl⟩ := own_slice3 hw
  have hblk := st.act
  clear hb hz
  obtain ⟨a0, a1, a2, a3, a4, a5, af, cm⟩ := St.cells st
  replace st := St.set st 3 ⟨#[]⟩ ⟨#[]⟩ 0 0 (.slice A ks.length c)
  have hw := own_set6 (k := 3) (nm := ⟨#[]⟩) (s := ⟨#[]⟩) (n := 0) (b := 0) (u := (.slice A ks.length c)) hw ⟨_, hblk⟩
  have hi := ints_of_own hw
  go_wp2_with fail
  refine (show Calls _ _ _ (set6 w3 (w.heap.size + 1 + 1) 3 ⟨#[]⟩ ⟨#[]⟩ 0 0 (.slice A ks.length c)) _ from right_v 3 ⟨#[]⟩ ⟨#[]⟩ 0 0 (.slice A ks.length c) ks _ hi (by decide)).mono ?_
  rintro e w8 ⟨rfl, hb⟩
  rw [HR.out]
  replace st := st.below hb
  have hw := own_below hw hb
  clear a0 a1 a2 a3 a4 a5 af cm
  obtain ⟨a0, a1, a2, a3, a4, a5, af, cm⟩ := St.cells st
  obtain ⟨p0, p1, p2, p3, p4, p5, pf⟩ := St.place st
  clear hb hi
  go_wp2_with fail
  refine (must_so _).mono ?_
  rintro e w9 ⟨rfl, rfl⟩
  go_wp2
  exact St.end_ st hw _ rfl _ rfl

set_option maxHeartbeats 8000000 in
set_option maxRecDepth 100000 in
theorem act_4 (nm : List UInt8) (hnm : nm.length ≤ 40) (h32 : 32 ∉ nm) (n b : Int) (hfar : far n = false) (hb0 : 0 ≤ b) (hb1 : b < 4294967296) (w : World) (hf : Fit w) (hr : rightV 4 ⟨nm.toArray⟩ ⟨#[]⟩ n b [] = true) : Calls Tryd.prog 19 #[.string ⟨(turnL ++ 32 :: (nm ++ 32 :: (Lib.itoa n ++ 32 :: Lib.itoa b))).toArray⟩] w (ActPost 4 ⟨nm.toArray⟩ ⟨#[]⟩ n b [] w) := by
  have hlen : Hid ((Lib.itoa n).length ≤ 21) := Lib.itoa_length_le n (by unfold far at hfar; simp at hfar; omega) (by unfold far at hfar; simp at hfar; omega)
  have hlem : Hid ((Lib.itoa b).length ≤ 21) := Lib.itoa_length_le b (by omega) (by omega)
  have st := St.start w (turnL ++ 32 :: (nm ++ 32 :: (Lib.itoa n ++ 32 :: Lib.itoa b)))
  have HR := Lib.hid hr
  clear hr
  go_enter Tryd.func19, Tryd.ntmps19
  go_wp2_with fail
  refine (show Calls _ _ _ (actW w (turnL ++ 32 :: (nm ++ 32 :: (Lib.itoa n ++ 32 :: Lib.itoa b)))) _ from word_any _ (turnL ++ 32 :: (nm ++ 32 :: (Lib.itoa n ++ 32 :: Lib.itoa b))) (turnL) (nm ++ 32 :: (Lib.itoa n ++ 32 :: Lib.itoa b)) true _ (hf.below st.bel) st.cur (by have := hlen.out; have := hlem.out; simp [turnL]; omega) (cut_hit 32 turnL _ (by decide))).mono ?_
  rintro e w1 ⟨rfl, hc, ho⟩
  replace st := st.only ho hc
  clear ho hc
  go_wp2_with fail
  refine (word_any _ (nm ++ 32 :: (Lib.itoa n ++ 32 :: Lib.itoa b)) (nm) (Lib.itoa n ++ 32 :: Lib.itoa b) true _ (hf.below st.bel) st.cur (by have := hlen.out; have := hlem.out; simp; omega) (cut_hit 32 nm _ h32)).mono ?_
  rintro e w2 ⟨rfl, hc, ho⟩
  replace st := st.only ho hc
  clear ho hc
  go_wp2_with fail
  refine (word_any _ (Lib.itoa n ++ 32 :: Lib.itoa b) (Lib.itoa n) (Lib.itoa b) true _ (hf.below st.bel) st.cur (by have := hlen.out; have := hlem.out; simp; omega) (cut_hit 32 _ _ (itoa_no n 32 (by unfold digitB; decide) (by decide)))).mono ?_
  rintro e w3 ⟨rfl, hc, ho⟩
  replace st := st.only ho hc
  clear ho hc
  go_wp2_with fail
  refine (number_itoa n hfar _ (hf.below st.bel)).mono ?_
  rintro e w30 ⟨rfl, hb⟩
  replace st := st.below hb
  clear hb
  go_wp2_with fail
  refine (word_any _ (Lib.itoa b) (Lib.itoa b) ([]) false _ (hf.below st.bel) st.cur (by have := hlem.out; omega) (cut_miss 32 _ (itoa_no b 32 (by unfold digitB; decide) (by decide)))).mono ?_
  rintro e w4 ⟨rfl, hc, ho⟩
  replace st := st.only ho hc
  clear ho hc
  go_wp2_with fail
  refine (number_itoa b (by unfold far; simp; omega) _ (hf.below st.bel)).mono ?_
  rintro e w5 ⟨rfl, hb⟩
  replace st := st.below hb
  clear hb
  go_wp2_with fail
  refine (bits_so b hb0 hb1 _).mono ?_
  rintro e w6 ⟨rfl, rfl⟩
  obtain ⟨a0, a1, a2, a3, a4, a5, af, cm⟩ := St.cells st
  replace st := St.set st 4 ⟨nm.toArray⟩ ⟨#[]⟩ n b (.slice none 0 0)
  have hi := ints_of_own (ks := []) (nil_own (set6 w5 (w.heap.size + 1 + 1) 4 ⟨nm.toArray⟩ ⟨#[]⟩ n b (.slice none 0 0)) 0)
  go_wp2_with fail
  refine (show Calls _ _ _ (set6 w5 (w.heap.size + 1 + 1) 4 ⟨nm.toArray⟩ ⟨#[]⟩ n b (.slice none 0 0)) _ from right_v 4 ⟨nm.toArray⟩ ⟨#[]⟩ n b (.slice none 0 0) [] _ hi (by show nm.toArray.size ≤ _; simp; omega)).mono ?_
  rintro e w8 ⟨rfl, hb⟩
  rw [HR.out]
  replace st := st.below hb
  clear a0 a1 a2 a3 a4 a5 af cm
  obtain ⟨a0, a1, a2, a3, a4, a5, af, cm⟩ := St.cells st
  obtain ⟨p0, p1, p2, p3, p4, p5, pf⟩ := St.place st
  clear hb hi
  go_wp2_with fail
  refine (must_so _).mono ?_
  rintro e w9 ⟨rfl, rfl⟩
  go_wp2
  exact St.end_ st (nil_own _ _) _ rfl _ rfl

set_option maxHeartbeats 8000000 in
set_option maxRecDepth 100000 in
theorem act_0 (nm t : List UInt8) (hnm : nm.length ≤ 40) (h32 : 32 ∉ nm) (ht : t ≠ []) (h4 : t.length ≤ 400) (w : World) (hf : Fit w) (hr : rightV 0 ⟨nm.toArray⟩ ⟨t.toArray⟩ 0 0 [] = true) : Calls Tryd.prog 19 #[.string ⟨(putL ++ 32 :: (nm ++ 32 :: hexL t)).toArray⟩] w (ActPost 0 ⟨nm.toArray⟩ ⟨t.toArray⟩ 0 0 [] w) := by
  have hlen : Hid ((hexL t).length ≤ 800) := by unfold Hid; rw [hexL_length]; omega
  have st := St.start w (putL ++ 32 :: (nm ++ 32 :: hexL t))
  have HR := Lib.hid hr
  clear hr
  go_enter Tryd.func19, Tryd.ntmps19
  go_wp2_with fail
  refine (show Calls _ _ _ (actW w (putL ++ 32 :: (nm ++ 32 :: hexL t))) _ from word_any _ (putL ++ 32 :: (nm ++ 32 :: hexL t)) (putL) (nm ++ 32 :: hexL t) true _ (hf.below st.bel) st.cur (by have := hlen.out; simp [putL]; omega) (cut_hit 32 putL _ (by decide))).mono ?_
  rintro e w1 ⟨rfl, hc, ho⟩
  replace st := st.only ho hc
  clear ho hc
  go_wp2_with fail
  refine (word_any _ (nm ++ 32 :: hexL t) (nm) (hexL t) true _ (hf.below st.bel) st.cur (by have := hlen.out; simp; omega) (cut_hit 32 nm _ h32)).mono ?_
  rintro e w2 ⟨rfl, hc, ho⟩
  replace st := st.only ho hc
  clear ho hc
  go_wp2_with fail
  refine (word_any _ (hexL t) (hexL t) ([]) false _ (hf.below st.bel) st.cur (by have := hlen.out; omega) (cut_miss 32 _ (hex_no 32 (by decide) t))).mono ?_
  rintro e w3 ⟨rfl, hc, ho⟩
  replace st := st.only ho hc
  clear ho hc
  go_wp2_with fail
  refine (bytes_hex t ht h4 _).mono ?_
  rintro e w4 ⟨rfl, hb⟩
  replace st := st.below hb
  clear hb
  obtain ⟨a0, a1, a2, a3, a4, a5, af, cm⟩ := St.cells st
  replace st := St.set st 0 ⟨nm.toArray⟩ ⟨t.toArray⟩ 0 0 (.slice none 0 0)
  have hi := ints_of_own (ks := []) (nil_own (set6 w4 (w.heap.size + 1 + 1) 0 ⟨nm.toArray⟩ ⟨t.toArray⟩ 0 0 (.slice none 0 0)) 0)
  go_wp2_with fail
  refine (show Calls _ _ _ (set6 w4 (w.heap.size + 1 + 1) 0 ⟨nm.toArray⟩ ⟨t.toArray⟩ 0 0 (.slice none 0 0)) _ from right_v 0 ⟨nm.toArray⟩ ⟨t.toArray⟩ 0 0 (.slice none 0 0) [] _ hi (by show nm.toArray.size ≤ _; simp; omega)).mono ?_
  rintro e w8 ⟨rfl, hb⟩
  rw [HR.out]
  replace st := st.below hb
  clear a0 a1 a2 a3 a4 a5 af cm
  obtain ⟨a0, a1, a2, a3, a4, a5, af, cm⟩ := St.cells st
  obtain ⟨p0, p1, p2, p3, p4, p5, pf⟩ := St.place st
  clear hb hi
  go_wp2_with fail
  refine (must_so _).mono ?_
  rintro e w9 ⟨rfl, rfl⟩
  go_wp2
  exact St.end_ st (nil_own _ _) _ rfl _ rfl

set_option maxHeartbeats 8000000 in
set_option maxRecDepth 100000 in
theorem act_0n (nm : List UInt8) (hnm : nm.length ≤ 40) (h32 : 32 ∉ nm) (w : World) (hf : Fit w) (hr : rightV 0 ⟨nm.toArray⟩ ⟨#[]⟩ 0 0 [] = true) : Calls Tryd.prog 19 #[.string ⟨(putL ++ 32 :: (nm ++ 32 :: [45])).toArray⟩] w (ActPost 0 ⟨nm.toArray⟩ ⟨#[]⟩ 0 0 [] w) := by
  have st := St.start w (putL ++ 32 :: (nm ++ 32 :: [45]))
  have HR := Lib.hid hr
  clear hr
  go_enter Tryd.func19, Tryd.ntmps19
  go_wp2_with fail
  refine (show Calls _ _ _ (actW w (putL ++ 32 :: (nm ++ 32 :: [45]))) _ from word_any _ (putL ++ 32 :: (nm ++ 32 :: [45])) (putL) (nm ++ 32 :: [45]) true _ (hf.below st.bel) st.cur (by simp [putL]; omega) (cut_hit 32 putL _ (by decide))).mono ?_
  rintro e w1 ⟨rfl, hc, ho⟩
  replace st := st.only ho hc
  clear ho hc
  go_wp2_with fail
  refine (word_any _ (nm ++ 32 :: [45]) (nm) ([45]) true _ (hf.below st.bel) st.cur (by simp; omega) (cut_hit 32 nm _ h32)).mono ?_
  rintro e w2 ⟨rfl, hc, ho⟩
  replace st := st.only ho hc
  clear ho hc
  go_wp2_with fail
  refine (word_any _ ([45]) ([45]) ([]) false _ (hf.below st.bel) st.cur (by decide) (cut_miss 32 _ (by decide))).mono ?_
  rintro e w3 ⟨rfl, hc, ho⟩
  replace st := st.only ho hc
  clear ho hc
  go_wp2_with fail
  refine (bytes_dash _).mono ?_
  rintro e w4 ⟨rfl, rfl⟩
  obtain ⟨a0, a1, a2, a3, a4, a5, af, cm⟩ := St.cells st
  replace st := St.set st 0 ⟨nm.toArray⟩ ⟨#[]⟩ 0 0 (.slice none 0 0)
  have hi := ints_of_own (ks := []) (nil_own (set6 w3 (w.heap.size + 1 + 1) 0 ⟨nm.toArray⟩ ⟨#[]⟩ 0 0 (.slice none 0 0)) 0)
  go_wp2_with fail
  refine (show Calls _ _ _ (set6 w3 (w.heap.size + 1 + 1) 0 ⟨nm.toArray⟩ ⟨#[]⟩ 0 0 (.slice none 0 0)) _ from right_v 0 ⟨nm.toArray⟩ ⟨#[]⟩ 0 0 (.slice none 0 0) [] _ hi (by show nm.toArray.size ≤ _; simp; omega)).mono ?_
  rintro e w8 ⟨rfl, hb⟩
  rw [HR.out]
  replace st := st.below hb
  clear a0 a1 a2 a3 a4 a5 af cm
  obtain ⟨a0, a1, a2, a3, a4, a5, af, cm⟩ := St.cells st
  obtain ⟨p0, p1, p2, p3, p4, p5, pf⟩ := St.place st
  clear hb hi
  go_wp2_with fail
  refine (must_so _).mono ?_
  rintro e w9 ⟨rfl, rfl⟩
  go_wp2
  exact St.end_ st (nil_own _ _) _ rfl _ rfl
end Go.Proofs.YthecllooledpaaaDoor
