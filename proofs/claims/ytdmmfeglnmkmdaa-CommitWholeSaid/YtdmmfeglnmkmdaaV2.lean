/- chainmanlaw20's example: awake. -/
import Derived.Test.YtdmmfeglnmkmdaaV1
namespace Go.Proofs.Ytdmmfeglnmkmdaa
open Go.RowKit Plain

theorem files_nil (w : World) (A : Option Addr) (c : Nat) (hc : c ≤ maxLen) : Files w (.slice A 0 c) [] := ⟨A, c, rfl, Nat.zero_le _, hc, fun i f hf => by simp at hf⟩
theorem new_tidy (room : Nat) : Maps.Tidy (newDk room).D := ⟨[], rfl, List.Pairwise.nil⟩
theorem new_inv (room : Nat) : Inv (newDk room) false ⟨0, 0, []⟩ := ⟨⟨[], rfl⟩, fun _ => ⟨rfl, rfl⟩, fun e => by cases e⟩
def m2 : Mf := ⟨2, 0, []⟩
theorem m2_right : rightB m2 = true := by decide
theorem m2_wf : m2.wf := fun f hf => by simp [m2] at hf
theorem m2_len : ((closeL (manB m2)).length : Int) = 13 := by decide +kernel
set_option maxHeartbeats 3200000 in
set_option maxRecDepth 100000 in
theorem awake_any (w : World) : Calls Try.prog 6 #[] w fun e w' => e = .returned (.bool true) ∧ Below w.heap.size w w' := by
  have hL := (new_inv 1000).loads rfl rfl
  obtain ⟨l1, l2, l3, l4⟩ := hL
  have L1 := Lib.hid l1
  have l5 : (newDk 1000).loadS = (newDk 1000).called := rfl
  have hk : (newDk 1000).loadS.hasK nW = false := rfl
  have ht : Maps.Tidy (newDk 1000).loadS.D := new_tidy 1000
  obtain ⟨s1, s2⟩ := saved_up (newDk 1000).loadS m2 ⟨l3, l4⟩ ht m2_right hk (by decide) (by rw [m2_len]; decide)
  obtain ⟨l6, _⟩ := l2.saved_yes m2_wf s1
  obtain ⟨l7, l8, l9, l10⟩ := l6.loads s2.down s2.fuse
  have hs1 := Lib.hid s1
  have L7 := Lib.hid l7
  have hz : Hid (∀ x : Dk, (x.saved ⟨0, 0, []⟩).1 = 1) := by
    intro x
    unfold Dk.saved
    rw [if_neg (by decide)]
  clear s1 l5 hk ht l6 l8 l1 l7
  generalize hx1 : (newDk 1000).loadS = x1 at *
  have HX1 := Lib.hid hx1
  clear hx1
  go_enter Try.func6, Try.ntmps6
  go_wp2_with fail
  refine (new_any 1000 (by omega) _).mono ?_
  rintro e w1 ⟨rfl, h1, b1⟩
  have hs := b1.size
  have hd := h1.ltd
  have hm := h1.ltm
  generalize hdd : w.heap.size + 1 = d at *
  have hdd2 : w.heap.size ≤ d := by omega
  clear hdd
  go_wp2_with fail
  refine (load_any d _ _ _ h1).mono ?_
  rintro e w2 ⟨h2, T2, hp⟩
  rw [L1.out] at hp
  simp only [Bool.false_eq_true, if_false] at hp
  subst hp
  rw [HX1.out] at h2
  have b2 := b1.trans (T2.below b1.size (by omega) (by omega))
  have h3 := h2.alloc (.cells #[.int .i64 0, .int .i64 0, .slice none 0 0] 31)
  have b3 := b2.alloc b2.size (.cells #[.int .i64 0, .int .i64 0, .slice none 0 0] 31)
  unfold zeroM
  go_wp2_with fail
  refine (save_any d _ x1 m2 _ _ h3 (files_nil _ none 0 (by decide)) m2_wf (fun f hf => by simp [m2] at hf)).mono ?_
  rintro e w3 ⟨rfl, h4, T3⟩
  rw [hs1.out]
  have b4 := b3.trans (T3.below b3.size (by omega) (by omega))
  clear h2 h3 T2 T3 b2 b3 h1 b1
  go_wp2_with fail
  refine (load_any d _ _ _ h4).mono ?_
  rintro e w4 ⟨h5, T4, hp⟩
  rw [L7.out] at hp
  simp only [if_true] at hp
  obtain ⟨v, rfl, hF⟩ := hp
  obtain ⟨A, c, rfl, hc0, hc1, _⟩ := hF
  have b5 := b4.trans (T4.below b4.size (by omega) (by omega))
  have h6 := h5.alloc (.cells #[.int .i64 m2.stage, .int .i64 m2.pass, .slice A m2.files.length c] 31)
  have b6 := b5.alloc b5.size (.cells #[.int .i64 m2.stage, .int .i64 m2.pass, .slice A m2.files.length c] 31)
  have e1 : m2.stage = 2 := rfl
  have e2 : m2.pass = 0 := rfl
  have e3 : m2.files.length = 0 := rfl
  rw [e1, e2, e3] at h6 b6 ⊢
  clear h4 h5 T4 b4 b5
  go_wp2_with fail
  refine (save_any d _ _ ⟨0, 0, []⟩ _ _ h6 (files_nil _ none 0 (by decide)) (fun f hf => by simp at hf) (fun f hf => by simp at hf)).mono ?_
  rw [hz.out]
  rintro e w5 ⟨rfl, h7, T5⟩
  have b7 := b6.trans (T5.below b6.size (by omega) (by omega))
  go_wp2_with fail
  go_ret
  exact ⟨rfl, b7⟩
end Go.Proofs.Ytdmmfeglnmkmdaa
