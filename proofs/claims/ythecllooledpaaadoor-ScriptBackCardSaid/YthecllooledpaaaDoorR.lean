/- script.Right: which acts may be. -/
import Derived.Test.YthecllooledpaaaDoorB
namespace Go.Proofs.YthecllooledpaaaDoor
open Go.RowKit

/-- What an act of each kind has, and has not. -/
def rightK (k : Int) (nm s : ByteArray) (n b : Int) (l : Nat) : Bool :=
  if k = 0 then (n == 0) && (b == 0) && decide (l = 0) && ((nm.toList == [105, 110, 112, 117, 116]) || (nm.toList == [99, 111, 110, 102]))
  else if k = 2 then nm.toList.isEmpty && s.toList.isEmpty && (b == 0) && decide (l = 0)
  else if k = 3 then nm.toList.isEmpty && s.toList.isEmpty && (n == 0) && (b == 0)
  else if k = 4 then s.toList.isEmpty && decide (l = 0) && nameB nm.data.toList
  else nm.toList.isEmpty && s.toList.isEmpty && (n == 0) && (b == 0) && decide (l = 0)
def rightV (k : Int) (nm s : ByteArray) (n b : Int) (ks : List Int) : Bool :=
  decide (0 ≤ k) && decide (k ≤ 5) && mayB [n] && mayB ks && rightK k nm s n b ks.length

theorem bare_0 (nm s : ByteArray) (n b : Int) (A : Option Addr) (l c : Nat) (w : World) :
    Calls Tryd.prog 35 #[.agg #[.int .i64 0, .string nm, .string s, .int .i64 n, .int .u32 b, .slice A l c]] w fun e w' => e = .returned (.agg #[.int .i64 0, .string ⟨#[]⟩, .string ⟨#[]⟩, .int .i64 n, .int .u32 b, .slice A l c]) ∧ Below w.heap.size w w' := bare_any 0 nm s n b A l c w
theorem bare_1 (nm s : ByteArray) (n b : Int) (A : Option Addr) (l c : Nat) (w : World) :
    Calls Tryd.prog 35 #[.agg #[.int .i64 1, .string nm, .string s, .int .i64 n, .int .u32 b, .slice A l c]] w fun e w' => e = .returned (.agg #[.int .i64 1, .string nm, .string s, .int .i64 n, .int .u32 b, .slice A l c]) ∧ Below w.heap.size w w' := bare_any 1 nm s n b A l c w
theorem bare_2 (nm s : ByteArray) (n b : Int) (A : Option Addr) (l c : Nat) (w : World) :
    Calls Tryd.prog 35 #[.agg #[.int .i64 2, .string nm, .string s, .int .i64 n, .int .u32 b, .slice A l c]] w fun e w' => e = .returned (.agg #[.int .i64 2, .string nm, .string s, .int .i64 0, .int .u32 b, .slice A l c]) ∧ Below w.heap.size w w' := bare_any 2 nm s n b A l c w
theorem bare_3 (nm s : ByteArray) (n b : Int) (A : Option Addr) (l c : Nat) (w : World) :
    Calls Tryd.prog 35 #[.agg #[.int .i64 3, .string nm, .string s, .int .i64 n, .int .u32 b, .slice A l c]] w fun e w' => e = .returned (.agg #[.int .i64 3, .string nm, .string s, .int .i64 n, .int .u32 b, .slice none 0 0]) ∧ Below w.heap.size w w' := bare_any 3 nm s n b A l c w
theorem bare_4 (nm s : ByteArray) (n b : Int) (A : Option Addr) (l c : Nat) (w : World) :
    Calls Tryd.prog 35 #[.agg #[.int .i64 4, .string nm, .string s, .int .i64 n, .int .u32 b, .slice A l c]] w fun e w' => e = .returned (.agg #[.int .i64 4, .string ⟨#[]⟩, .string s, .int .i64 0, .int .u32 0, .slice A l c]) ∧ Below w.heap.size w w' := bare_any 4 nm s n b A l c w
theorem bare_5 (nm s : ByteArray) (n b : Int) (A : Option Addr) (l c : Nat) (w : World) :
    Calls Tryd.prog 35 #[.agg #[.int .i64 5, .string nm, .string s, .int .i64 n, .int .u32 b, .slice A l c]] w fun e w' => e = .returned (.agg #[.int .i64 5, .string nm, .string s, .int .i64 n, .int .u32 b, .slice A l c]) ∧ Below w.heap.size w w' := bare_any 5 nm s n b A l c w

theorem ints_one (w : World) (n : Int) : Ints (w.alloc (.cells #[.int .i64 n] 3)) (.slice (some ⟨w.heap.size, 0, none⟩) 1 1) [n] :=
  ⟨_, 1, rfl, by simp, by unfold maxLen; omega, fun j hj => ⟨_, rfl, by
    have : j = 0 := by simp at hj; omega
    subst this
    simp [Addr.add]⟩⟩

def boxA (k : Int) (nm s : ByteArray) (n b : Int) (u : Value) : Obj := .cells #[.int .i64 k, .string nm, .string s, .int .i64 n, .int .u32 b, u] 39

theorem bcell {W w1 : World} (hb : Below W.heap.size W w1) : (∀ b o, b < W.heap.size → w1.cell? ⟨b, o, none⟩ = W.cell? ⟨b, o, none⟩) ∧ (∀ b o, b < W.heap.size → w1.frozen? ⟨b, o, none⟩ = W.frozen? ⟨b, o, none⟩) :=
  ⟨fun b o h => hb.cell (p := ⟨b, o, none⟩) h, fun b o h => hb.frozen (p := ⟨b, o, none⟩) h⟩

set_option maxHeartbeats 4000000 in
set_option maxRecDepth 100000 in
theorem right_k0 (nm s : ByteArray) (n b : Int) (u : Value) (ks : List Int) (w : World) (hu : Ints w u ks) (_hnm : nm.size ≤ 9223372036854775807) :
    Calls Tryd.prog 20 #[.agg #[.int .i64 0, .string nm, .string s, .int .i64 n, .int .u32 b, u]] w fun e w' => e = .returned (.bool (rightV 0 nm s n b ks)) ∧ Below w.heap.size w w' := by
  obtain ⟨A, c, rfl, hl, hm, hc⟩ := id hu
  have hbox := hu.below (((Below.refl _ w).alloc (Nat.le_refl _) (boxA 0 nm s n b (.slice A ks.length c))).alloc (by simp) (.cells #[.int .i64 n] 3))
  have hone := ints_one (w.alloc (boxA 0 nm s n b (.slice A ks.length c))) n
  rw [World.size_alloc] at hone
  unfold boxA at hbox hone
  clear hc hm
  cases hn : mayB [n]
  · have HN := Lib.hid hn
    clear hn
    go_enter Tryd.func20, Tryd.ntmps20
    go_wp2_with fail
    refine (may_any _ _ _ hone).mono ?_; rintro e w1 ⟨rfl, rfl⟩; rw [HN.out]
    go_wp2
    go_ret
    exact ⟨ret_bool (by simp [rightV, HN.out]), by go_grown⟩
  cases hk : mayB ks
  · have HN := Lib.hid hn
    have HK := Lib.hid hk
    clear hn hk
    go_enter Tryd.func20, Tryd.ntmps20
    go_wp2_with fail
    refine (may_any _ _ _ hone).mono ?_; rintro e w1 ⟨rfl, rfl⟩; rw [HN.out]
    go_wp2_with fail
    refine (may_any _ _ _ hbox).mono ?_; rintro e w1 ⟨rfl, rfl⟩; rw [HK.out]
    go_wp2
    go_ret
    exact ⟨ret_bool (by simp [rightV, HN.out, HK.out]), by go_grown⟩
  have HN := Lib.hid hn
  have HK := Lib.hid hk
  clear hn hk
  have hl0 : (ks.length : Int) ≤ 9223372036854775807 := by unfold Ints at hu; obtain ⟨_, _, _, h1, h2, _⟩ := hu; unfold maxLen at h2; omega
  clear hu
  by_cases hn : n = 0
  case neg =>
    go_enter Tryd.func20, Tryd.ntmps20
    go_wp2_with fail
    refine (may_any _ _ _ hone).mono ?_; rintro e w1 ⟨rfl, rfl⟩; rw [HN.out]
    go_wp2_with fail
    refine (may_any _ _ _ hbox).mono ?_; rintro e w1 ⟨rfl, rfl⟩; rw [HK.out]
    clear hbox hone
    go_wp2_with fail
    refine (bare_0 _ _ _ _ _ _ _ _).mono ?_
    rintro e w1 ⟨rfl, hb1⟩
    have e0 := (bcell hb1).1 w.heap.size 0 (by simp; omega)
    have e1 := (bcell hb1).1 w.heap.size 1 (by simp; omega)
    simp at e0 e1
    have g0 : ∀ O, (w1.alloc O).cell? ⟨w.heap.size, 0, none⟩ = some (.int .i64 0) := fun O => (World.cell?_alloc_lt w1 O _ (by have := hb1.size; simp at this; simp; omega)).trans e0
    have g1 : ∀ O, (w1.alloc O).cell? ⟨w.heap.size, 1, none⟩ = some (.string nm) := fun O => (World.cell?_alloc_lt w1 O _ (by have := hb1.size; simp at this; simp; omega)).trans e1
    have hbw : Below w.heap.size w w1 := below_then (((Below.refl _ w).alloc (Nat.le_refl _) _).alloc (by simp) _) (by simp; omega) hb1
    have hz1 := hb1.size
    simp at hz1
    go_wp2
    go_ret
    exact ⟨ret_bool (by simp [rightV, rightK, hn]), by go_grown⟩
  subst hn
  by_cases hb : b = 0
  case neg =>
    go_enter Tryd.func20, Tryd.ntmps20
    go_wp2_with fail
    refine (may_any _ _ _ hone).mono ?_; rintro e w1 ⟨rfl, rfl⟩; rw [HN.out]
    go_wp2_with fail
    refine (may_any _ _ _ hbox).mono ?_; rintro e w1 ⟨rfl, rfl⟩; rw [HK.out]
    clear hbox hone
    go_wp2_with fail
    refine (bare_0 _ _ _ _ _ _ _ _).mono ?_
    rintro e w1 ⟨rfl, hb1⟩
    have e0 := (bcell hb1).1 w.heap.size 0 (by simp; omega)
    have e1 := (bcell hb1).1 w.heap.size 1 (by simp; omega)
    simp at e0 e1
    have g0 : ∀ O, (w1.alloc O).cell? ⟨w.heap.size, 0, none⟩ = some (.int .i64 0) := fun O => (World.cell?_alloc_lt w1 O _ (by have := hb1.size; simp at this; simp; omega)).trans e0
    have g1 : ∀ O, (w1.alloc O).cell? ⟨w.heap.size, 1, none⟩ = some (.string nm) := fun O => (World.cell?_alloc_lt w1 O _ (by have := hb1.size; simp at this; simp; omega)).trans e1
    have hbw : Below w.heap.size w w1 := below_then (((Below.refl _ w).alloc (Nat.le_refl _) _).alloc (by simp) _) (by simp; omega) hb1
    have hz1 := hb1.size
    simp at hz1
    go_wp2
    go_ret
    exact ⟨ret_bool (by simp [rightV, rightK, hb]), by go_grown⟩
  subst hb
  by_cases hl1 : ks.length = 0
  case neg =>
    have hl2 : 0 < ks.length := by omega
    clear hl1
    go_enter Tryd.func20, Tryd.ntmps20
    go_wp2_with fail
    refine (may_any _ _ _ hone).mono ?_; rintro e w1 ⟨rfl, rfl⟩; rw [HN.out]
    go_wp2_with fail
    refine (may_any _ _ _ hbox).mono ?_; rintro e w1 ⟨rfl, rfl⟩; rw [HK.out]
    clear hbox hone
    go_wp2_with fail
    refine (bare_0 _ _ _ _ _ _ _ _).mono ?_
    rintro e w1 ⟨rfl, hb1⟩
    have e0 := (bcell hb1).1 w.heap.size 0 (by simp; omega)
    have e1 := (bcell hb1).1 w.heap.size 1 (by simp; omega)
    simp at e0 e1
    have g0 : ∀ O, (w1.alloc O).cell? ⟨w.heap.size, 0, none⟩ = some (.int .i64 0) := fun O => (World.cell?_alloc_lt w1 O _ (by have := hb1.size; simp at this; simp; omega)).trans e0
    have g1 : ∀ O, (w1.alloc O).cell? ⟨w.heap.size, 1, none⟩ = some (.string nm) := fun O => (World.cell?_alloc_lt w1 O _ (by have := hb1.size; simp at this; simp; omega)).trans e1
    have hbw : Below w.heap.size w w1 := below_then (((Below.refl _ w).alloc (Nat.le_refl _) _).alloc (by simp) _) (by simp; omega) hb1
    have hz1 := hb1.size
    simp at hz1
    go_wp2
    go_ret
    exact ⟨ret_bool (by simp [rightV, rightK, (show ¬ ks = [] by rintro rfl; simp at hl2)]), by go_grown⟩
  obtain rfl : ks = [] := List.eq_nil_of_length_eq_zero hl1
  clear hl1 hl0 hl
  simp only [List.length_nil] at *
  go_enter Tryd.func20, Tryd.ntmps20
  go_wp2_with fail
  refine (may_any _ _ _ hone).mono ?_; rintro e w1 ⟨rfl, rfl⟩; rw [HN.out]
  go_wp2_with fail
  refine (may_any _ _ _ hbox).mono ?_; rintro e w1 ⟨rfl, rfl⟩; rw [HK.out]
  clear hbox hone
  go_wp2_with fail
  refine (bare_0 _ _ _ _ _ _ _ _).mono ?_
  rintro e w1 ⟨rfl, hb1⟩
  have e0 := (bcell hb1).1 w.heap.size 0 (by simp; omega)
  have e1 := (bcell hb1).1 w.heap.size 1 (by simp; omega)
  simp at e0 e1
  have g0 : ∀ O, (w1.alloc O).cell? ⟨w.heap.size, 0, none⟩ = some (.int .i64 0) := fun O => (World.cell?_alloc_lt w1 O _ (by have := hb1.size; simp at this; simp; omega)).trans e0
  have g1 : ∀ O, (w1.alloc O).cell? ⟨w.heap.size, 1, none⟩ = some (.string nm) := fun O => (World.cell?_alloc_lt w1 O _ (by have := hb1.size; simp at this; simp; omega)).trans e1
  have hbw : Below w.heap.size w w1 := below_then (((Below.refl _ w).alloc (Nat.le_refl _) _).alloc (by simp) _) (by simp; omega) hb1
  have hz1 := hb1.size
  simp at hz1
  go_wp2
  all_goals go_ret
  all_goals refine ⟨ret_bool (by simp [rightV, rightK, HN.out, HK.out, *]), ?_⟩
  all_goals first | (go_grown; done) | exact below_then (hbw.alloc (by omega) _) (by simp; omega) hb2

set_option maxHeartbeats 4000000 in
set_option maxRecDepth 100000 in
theorem right_k1 (nm s : ByteArray) (n b : Int) (u : Value) (ks : List Int) (w : World) (hu : Ints w u ks) (_hnm : nm.size ≤ 9223372036854775807) :
    Calls Tryd.prog 20 #[.agg #[.int .i64 1, .string nm, .string s, .int .i64 n, .int .u32 b, u]] w fun e w' => e = .returned (.bool (rightV 1 nm s n b ks)) ∧ Below w.heap.size w w' := by
  obtain ⟨A, c, rfl, hl, hm, hc⟩ := id hu
  have hbox := hu.below (((Below.refl _ w).alloc (Nat.le_refl _) (boxA 1 nm s n b (.slice A ks.length c))).alloc (by simp) (.cells #[.int .i64 n] 3))
  have hone := ints_one (w.alloc (boxA 1 nm s n b (.slice A ks.length c))) n
  rw [World.size_alloc] at hone
  unfold boxA at hbox hone
  clear hc hm
  cases hn : mayB [n]
  · have HN := Lib.hid hn
    clear hn
    go_enter Tryd.func20, Tryd.ntmps20
    go_wp2_with fail
    refine (may_any _ _ _ hone).mono ?_; rintro e w1 ⟨rfl, rfl⟩; rw [HN.out]
    go_wp2
    go_ret
    exact ⟨ret_bool (by simp [rightV, HN.out]), by go_grown⟩
  cases hk : mayB ks
  · have HN := Lib.hid hn
    have HK := Lib.hid hk
    clear hn hk
    go_enter Tryd.func20, Tryd.ntmps20
    go_wp2_with fail
    refine (may_any _ _ _ hone).mono ?_; rintro e w1 ⟨rfl, rfl⟩; rw [HN.out]
    go_wp2_with fail
    refine (may_any _ _ _ hbox).mono ?_; rintro e w1 ⟨rfl, rfl⟩; rw [HK.out]
    go_wp2
    go_ret
    exact ⟨ret_bool (by simp [rightV, HN.out, HK.out]), by go_grown⟩
  have HN := Lib.hid hn
  have HK := Lib.hid hk
  clear hn hk
  have hl0 : (ks.length : Int) ≤ 9223372036854775807 := by unfold Ints at hu; obtain ⟨_, _, _, h1, h2, _⟩ := hu; unfold maxLen at h2; omega
  clear hu
  cases hne : nm.toList.isEmpty
  case false =>
    go_enter Tryd.func20, Tryd.ntmps20
    go_wp2_with fail
    refine (may_any _ _ _ hone).mono ?_; rintro e w1 ⟨rfl, rfl⟩; rw [HN.out]
    go_wp2_with fail
    refine (may_any _ _ _ hbox).mono ?_; rintro e w1 ⟨rfl, rfl⟩; rw [HK.out]
    clear hbox hone
    go_wp2_with fail
    refine (bare_1 _ _ _ _ _ _ _ _).mono ?_
    rintro e w1 ⟨rfl, hb1⟩
    have e0 := (bcell hb1).1 w.heap.size 0 (by simp; omega)
    have e1 := (bcell hb1).1 w.heap.size 1 (by simp; omega)
    simp at e0 e1
    have g0 : ∀ O, (w1.alloc O).cell? ⟨w.heap.size, 0, none⟩ = some (.int .i64 1) := fun O => (World.cell?_alloc_lt w1 O _ (by have := hb1.size; simp at this; simp; omega)).trans e0
    have g1 : ∀ O, (w1.alloc O).cell? ⟨w.heap.size, 1, none⟩ = some (.string nm) := fun O => (World.cell?_alloc_lt w1 O _ (by have := hb1.size; simp at this; simp; omega)).trans e1
    have hbw : Below w.heap.size w w1 := below_then (((Below.refl _ w).alloc (Nat.le_refl _) _).alloc (by simp) _) (by simp; omega) hb1
    have hz1 := hb1.size
    simp at hz1
    go_wp2
    go_ret
    exact ⟨ret_bool (by simp [rightV, rightK, hne]), by go_grown⟩
  have Hnm := Lib.hid hne
  skip
  cases hs : s.toList.isEmpty
  case false =>
    go_enter Tryd.func20, Tryd.ntmps20
    go_wp2_with fail
    refine (may_any _ _ _ hone).mono ?_; rintro e w1 ⟨rfl, rfl⟩; rw [HN.out]
    go_wp2_with fail
    refine (may_any _ _ _ hbox).mono ?_; rintro e w1 ⟨rfl, rfl⟩; rw [HK.out]
    clear hbox hone
    go_wp2_with fail
    refine (bare_1 _ _ _ _ _ _ _ _).mono ?_
    rintro e w1 ⟨rfl, hb1⟩
    have e0 := (bcell hb1).1 w.heap.size 0 (by simp; omega)
    have e1 := (bcell hb1).1 w.heap.size 1 (by simp; omega)
    simp at e0 e1
    have g0 : ∀ O, (w1.alloc O).cell? ⟨w.heap.size, 0, none⟩ = some (.int .i64 1) := fun O => (World.cell?_alloc_lt w1 O _ (by have := hb1.size; simp at this; simp; omega)).trans e0
    have g1 : ∀ O, (w1.alloc O).cell? ⟨w.heap.size, 1, none⟩ = some (.string nm) := fun O => (World.cell?_alloc_lt w1 O _ (by have := hb1.size; simp at this; simp; omega)).trans e1
    have hbw : Below w.heap.size w w1 := below_then (((Below.refl _ w).alloc (Nat.le_refl _) _).alloc (by simp) _) (by simp; omega) hb1
    have hz1 := hb1.size
    simp at hz1
    go_wp2
    go_ret
    exact ⟨ret_bool (by simp [rightV, rightK, hs]), by go_grown⟩
  have Hs := Lib.hid hs
  skip
  by_cases hn : n = 0
  case neg =>
    go_enter Tryd.func20, Tryd.ntmps20
    go_wp2_with fail
    refine (may_any _ _ _ hone).mono ?_; rintro e w1 ⟨rfl, rfl⟩; rw [HN.out]
    go_wp2_with fail
    refine (may_any _ _ _ hbox).mono ?_; rintro e w1 ⟨rfl, rfl⟩; rw [HK.out]
    clear hbox hone
    go_wp2_with fail
    refine (bare_1 _ _ _ _ _ _ _ _).mono ?_
    rintro e w1 ⟨rfl, hb1⟩
    have e0 := (bcell hb1).1 w.heap.size 0 (by simp; omega)
    have e1 := (bcell hb1).1 w.heap.size 1 (by simp; omega)
    simp at e0 e1
    have g0 : ∀ O, (w1.alloc O).cell? ⟨w.heap.size, 0, none⟩ = some (.int .i64 1) := fun O => (World.cell?_alloc_lt w1 O _ (by have := hb1.size; simp at this; simp; omega)).trans e0
    have g1 : ∀ O, (w1.alloc O).cell? ⟨w.heap.size, 1, none⟩ = some (.string nm) := fun O => (World.cell?_alloc_lt w1 O _ (by have := hb1.size; simp at this; simp; omega)).trans e1
    have hbw : Below w.heap.size w w1 := below_then (((Below.refl _ w).alloc (Nat.le_refl _) _).alloc (by simp) _) (by simp; omega) hb1
    have hz1 := hb1.size
    simp at hz1
    go_wp2
    go_ret
    exact ⟨ret_bool (by simp [rightV, rightK, hn]), by go_grown⟩
  subst hn
  by_cases hb : b = 0
  case neg =>
    go_enter Tryd.func20, Tryd.ntmps20
    go_wp2_with fail
    refine (may_any _ _ _ hone).mono ?_; rintro e w1 ⟨rfl, rfl⟩; rw [HN.out]
    go_wp2_with fail
    refine (may_any _ _ _ hbox).mono ?_; rintro e w1 ⟨rfl, rfl⟩; rw [HK.out]
    clear hbox hone
    go_wp2_with fail
    refine (bare_1 _ _ _ _ _ _ _ _).mono ?_
    rintro e w1 ⟨rfl, hb1⟩
    have e0 := (bcell hb1).1 w.heap.size 0 (by simp; omega)
    have e1 := (bcell hb1).1 w.heap.size 1 (by simp; omega)
    simp at e0 e1
    have g0 : ∀ O, (w1.alloc O).cell? ⟨w.heap.size, 0, none⟩ = some (.int .i64 1) := fun O => (World.cell?_alloc_lt w1 O _ (by have := hb1.size; simp at this; simp; omega)).trans e0
    have g1 : ∀ O, (w1.alloc O).cell? ⟨w.heap.size, 1, none⟩ = some (.string nm) := fun O => (World.cell?_alloc_lt w1 O _ (by have := hb1.size; simp at this; simp; omega)).trans e1
    have hbw : Below w.heap.size w w1 := below_then (((Below.refl _ w).alloc (Nat.le_refl _) _).alloc (by simp) _) (by simp; omega) hb1
    have hz1 := hb1.size
    simp at hz1
    go_wp2
    go_ret
    exact ⟨ret_bool (by simp [rightV, rightK, hb]), by go_grown⟩
  subst hb
  by_cases hl1 : ks.length = 0
  case neg =>
    have hl2 : 0 < ks.length := by omega
    clear hl1
    go_enter Tryd.func20, Tryd.ntmps20
    go_wp2_with fail
    refine (may_any _ _ _ hone).mono ?_; rintro e w1 ⟨rfl, rfl⟩; rw [HN.out]
    go_wp2_with fail
    refine (may_any _ _ _ hbox).mono ?_; rintro e w1 ⟨rfl, rfl⟩; rw [HK.out]
    clear hbox hone
    go_wp2_with fail
    refine (bare_1 _ _ _ _ _ _ _ _).mono ?_
    rintro e w1 ⟨rfl, hb1⟩
    have e0 := (bcell hb1).1 w.heap.size 0 (by simp; omega)
    have e1 := (bcell hb1).1 w.heap.size 1 (by simp; omega)
    simp at e0 e1
    have g0 : ∀ O, (w1.alloc O).cell? ⟨w.heap.size, 0, none⟩ = some (.int .i64 1) := fun O => (World.cell?_alloc_lt w1 O _ (by have := hb1.size; simp at this; simp; omega)).trans e0
    have g1 : ∀ O, (w1.alloc O).cell? ⟨w.heap.size, 1, none⟩ = some (.string nm) := fun O => (World.cell?_alloc_lt w1 O _ (by have := hb1.size; simp at this; simp; omega)).trans e1
    have hbw : Below w.heap.size w w1 := below_then (((Below.refl _ w).alloc (Nat.le_refl _) _).alloc (by simp) _) (by simp; omega) hb1
    have hz1 := hb1.size
    simp at hz1
    go_wp2
    go_ret
    exact ⟨ret_bool (by simp [rightV, rightK, (show ¬ ks = [] by rintro rfl; simp at hl2)]), by go_grown⟩
  obtain rfl : ks = [] := List.eq_nil_of_length_eq_zero hl1
  clear hl1 hl0 hl
  simp only [List.length_nil] at *
  go_enter Tryd.func20, Tryd.ntmps20
  go_wp2_with fail
  refine (may_any _ _ _ hone).mono ?_; rintro e w1 ⟨rfl, rfl⟩; rw [HN.out]
  go_wp2_with fail
  refine (may_any _ _ _ hbox).mono ?_; rintro e w1 ⟨rfl, rfl⟩; rw [HK.out]
  clear hbox hone
  go_wp2_with fail
  refine (bare_1 _ _ _ _ _ _ _ _).mono ?_
  rintro e w1 ⟨rfl, hb1⟩
  have e0 := (bcell hb1).1 w.heap.size 0 (by simp; omega)
  have e1 := (bcell hb1).1 w.heap.size 1 (by simp; omega)
  simp at e0 e1
  have g0 : ∀ O, (w1.alloc O).cell? ⟨w.heap.size, 0, none⟩ = some (.int .i64 1) := fun O => (World.cell?_alloc_lt w1 O _ (by have := hb1.size; simp at this; simp; omega)).trans e0
  have g1 : ∀ O, (w1.alloc O).cell? ⟨w.heap.size, 1, none⟩ = some (.string nm) := fun O => (World.cell?_alloc_lt w1 O _ (by have := hb1.size; simp at this; simp; omega)).trans e1
  have hbw : Below w.heap.size w w1 := below_then (((Below.refl _ w).alloc (Nat.le_refl _) _).alloc (by simp) _) (by simp; omega) hb1
  have hz1 := hb1.size
  simp at hz1
  go_wp2
  all_goals go_ret
  all_goals refine ⟨ret_bool (by simp [rightV, rightK, HN.out, HK.out, *]), ?_⟩
  all_goals first | (go_grown; done) | exact below_then (hbw.alloc (by omega) _) (by simp; omega) hb2

set_option maxHeartbeats 4000000 in
set_option maxRecDepth 100000 in
theorem right_k2 (nm s : ByteArray) (n b : Int) (u : Value) (ks : List Int) (w : World) (hu : Ints w u ks) (_hnm : nm.size ≤ 9223372036854775807) :
    Calls Tryd.prog 20 #[.agg #[.int .i64 2, .string nm, .string s, .int .i64 n, .int .u32 b, u]] w fun e w' => e = .returned (.bool (rightV 2 nm s n b ks)) ∧ Below w.heap.size w w' := by
  obtain ⟨A, c, rfl, hl, hm, hc⟩ := id hu
  have hbox := hu.below (((Below.refl _ w).alloc (Nat.le_refl _) (boxA 2 nm s n b (.slice A ks.length c))).alloc (by simp) (.cells #[.int .i64 n] 3))
  have hone := ints_one (w.alloc (boxA 2 nm s n b (.slice A ks.length c))) n
  rw [World.size_alloc] at hone
  unfold boxA at hbox hone
  clear hc hm
  cases hn : mayB [n]
  · have HN := Lib.hid hn
    clear hn
    go_enter Tryd.func20, Tryd.ntmps20
    go_wp2_with fail
    refine (may_any _ _ _ hone).mono ?_; rintro e w1 ⟨rfl, rfl⟩; rw [HN.out]
    go_wp2
    go_ret
    exact ⟨ret_bool (by simp [rightV, HN.out]), by go_grown⟩
  cases hk : mayB ks
  · have HN := Lib.hid hn
    have HK := Lib.hid hk
    clear hn hk
    go_enter Tryd.func20, Tryd.ntmps20
    go_wp2_with fail
    refine (may_any _ _ _ hone).mono ?_; rintro e w1 ⟨rfl, rfl⟩; rw [HN.out]
    go_wp2_with fail
    refine (may_any _ _ _ hbox).mono ?_; rintro e w1 ⟨rfl, rfl⟩; rw [HK.out]
    go_wp2
    go_ret
    exact ⟨ret_bool (by simp [rightV, HN.out, HK.out]), by go_grown⟩
  have HN := Lib.hid hn
  have HK := Lib.hid hk
  clear hn hk
  have hl0 : (ks.length : Int) ≤ 9223372036854775807 := by unfold Ints at hu; obtain ⟨_, _, _, h1, h2, _⟩ := hu; unfold maxLen at h2; omega
  clear hu
  cases hne : nm.toList.isEmpty
  case false =>
    go_enter Tryd.func20, Tryd.ntmps20
    go_wp2_with fail
    refine (may_any _ _ _ hone).mono ?_; rintro e w1 ⟨rfl, rfl⟩; rw [HN.out]
    go_wp2_with fail
    refine (may_any _ _ _ hbox).mono ?_; rintro e w1 ⟨rfl, rfl⟩; rw [HK.out]
    clear hbox hone
    go_wp2_with fail
    refine (bare_2 _ _ _ _ _ _ _ _).mono ?_
    rintro e w1 ⟨rfl, hb1⟩
    have e0 := (bcell hb1).1 w.heap.size 0 (by simp; omega)
    have e1 := (bcell hb1).1 w.heap.size 1 (by simp; omega)
    simp at e0 e1
    have g0 : ∀ O, (w1.alloc O).cell? ⟨w.heap.size, 0, none⟩ = some (.int .i64 2) := fun O => (World.cell?_alloc_lt w1 O _ (by have := hb1.size; simp at this; simp; omega)).trans e0
    have g1 : ∀ O, (w1.alloc O).cell? ⟨w.heap.size, 1, none⟩ = some (.string nm) := fun O => (World.cell?_alloc_lt w1 O _ (by have := hb1.size; simp at this; simp; omega)).trans e1
    have hbw : Below w.heap.size w w1 := below_then (((Below.refl _ w).alloc (Nat.le_refl _) _).alloc (by simp) _) (by simp; omega) hb1
    have hz1 := hb1.size
    simp at hz1
    go_wp2
    go_ret
    exact ⟨ret_bool (by simp [rightV, rightK, hne]), by go_grown⟩
  have Hnm := Lib.hid hne
  skip
  cases hs : s.toList.isEmpty
  case false =>
    go_enter Tryd.func20, Tryd.ntmps20
    go_wp2_with fail
    refine (may_any _ _ _ hone).mono ?_; rintro e w1 ⟨rfl, rfl⟩; rw [HN.out]
    go_wp2_with fail
    refine (may_any _ _ _ hbox).mono ?_; rintro e w1 ⟨rfl, rfl⟩; rw [HK.out]
    clear hbox hone
    go_wp2_with fail
    refine (bare_2 _ _ _ _ _ _ _ _).mono ?_
    rintro e w1 ⟨rfl, hb1⟩
    have e0 := (bcell hb1).1 w.heap.size 0 (by simp; omega)
    have e1 := (bcell hb1).1 w.heap.size 1 (by simp; omega)
    simp at e0 e1
    have g0 : ∀ O, (w1.alloc O).cell? ⟨w.heap.size, 0, none⟩ = some (.int .i64 2) := fun O => (World.cell?_alloc_lt w1 O _ (by have := hb1.size; simp at this; simp; omega)).trans e0
    have g1 : ∀ O, (w1.alloc O).cell? ⟨w.heap.size, 1, none⟩ = some (.string nm) := fun O => (World.cell?_alloc_lt w1 O _ (by have := hb1.size; simp at this; simp; omega)).trans e1
    have hbw : Below w.heap.size w w1 := below_then (((Below.refl _ w).alloc (Nat.le_refl _) _).alloc (by simp) _) (by simp; omega) hb1
    have hz1 := hb1.size
    simp at hz1
    go_wp2
    go_ret
    exact ⟨ret_bool (by simp [rightV, rightK, hs]), by go_grown⟩
  have Hs := Lib.hid hs
  skip
  by_cases hb : b = 0
  case neg =>
    go_enter Tryd.func20, Tryd.ntmps20
    go_wp2_with fail
    refine (may_any _ _ _ hone).mono ?_; rintro e w1 ⟨rfl, rfl⟩; rw [HN.out]
    go_wp2_with fail
    refine (may_any _ _ _ hbox).mono ?_; rintro e w1 ⟨rfl, rfl⟩; rw [HK.out]
    clear hbox hone
    go_wp2_with fail
    refine (bare_2 _ _ _ _ _ _ _ _).mono ?_
    rintro e w1 ⟨rfl, hb1⟩
    have e0 := (bcell hb1).1 w.heap.size 0 (by simp; omega)
    have e1 := (bcell hb1).1 w.heap.size 1 (by simp; omega)
    simp at e0 e1
    have g0 : ∀ O, (w1.alloc O).cell? ⟨w.heap.size, 0, none⟩ = some (.int .i64 2) := fun O => (World.cell?_alloc_lt w1 O _ (by have := hb1.size; simp at this; simp; omega)).trans e0
    have g1 : ∀ O, (w1.alloc O).cell? ⟨w.heap.size, 1, none⟩ = some (.string nm) := fun O => (World.cell?_alloc_lt w1 O _ (by have := hb1.size; simp at this; simp; omega)).trans e1
    have hbw : Below w.heap.size w w1 := below_then (((Below.refl _ w).alloc (Nat.le_refl _) _).alloc (by simp) _) (by simp; omega) hb1
    have hz1 := hb1.size
    simp at hz1
    go_wp2
    go_ret
    exact ⟨ret_bool (by simp [rightV, rightK, hb]), by go_grown⟩
  subst hb
  by_cases hl1 : ks.length = 0
  case neg =>
    have hl2 : 0 < ks.length := by omega
    clear hl1
    go_enter Tryd.func20, Tryd.ntmps20
    go_wp2_with fail
    refine (may_any _ _ _ hone).mono ?_; rintro e w1 ⟨rfl, rfl⟩; rw [HN.out]
    go_wp2_with fail
    refine (may_any _ _ _ hbox).mono ?_; rintro e w1 ⟨rfl, rfl⟩; rw [HK.out]
    clear hbox hone
    go_wp2_with fail
    refine (bare_2 _ _ _ _ _ _ _ _).mono ?_
    rintro e w1 ⟨rfl, hb1⟩
    have e0 := (bcell hb1).1 w.heap.size 0 (by simp; omega)
    have e1 := (bcell hb1).1 w.heap.size 1 (by simp; omega)
    simp at e0 e1
    have g0 : ∀ O, (w1.alloc O).cell? ⟨w.heap.size, 0, none⟩ = some (.int .i64 2) := fun O => (World.cell?_alloc_lt w1 O _ (by have := hb1.size; simp at this; simp; omega)).trans e0
    have g1 : ∀ O, (w1.alloc O).cell? ⟨w.heap.size, 1, none⟩ = some (.string nm) := fun O => (World.cell?_alloc_lt w1 O _ (by have := hb1.size; simp at this; simp; omega)).trans e1
    have hbw : Below w.heap.size w w1 := below_then (((Below.refl _ w).alloc (Nat.le_refl _) _).alloc (by simp) _) (by simp; omega) hb1
    have hz1 := hb1.size
    simp at hz1
    go_wp2
    go_ret
    exact ⟨ret_bool (by simp [rightV, rightK, (show ¬ ks = [] by rintro rfl; simp at hl2)]), by go_grown⟩
  obtain rfl : ks = [] := List.eq_nil_of_length_eq_zero hl1
  clear hl1 hl0 hl
  simp only [List.length_nil] at *
  go_enter Tryd.func20, Tryd.ntmps20
  go_wp2_with fail
  refine (may_any _ _ _ hone).mono ?_; rintro e w1 ⟨rfl, rfl⟩; rw [HN.out]
  go_wp2_with fail
  refine (may_any _ _ _ hbox).mono ?_; rintro e w1 ⟨rfl, rfl⟩; rw [HK.out]
  clear hbox hone
  go_wp2_with fail
  refine (bare_2 _ _ _ _ _ _ _ _).mono ?_
  rintro e w1 ⟨rfl, hb1⟩
  have e0 := (bcell hb1).1 w.heap.size 0 (by simp; omega)
  have e1 := (bcell hb1).1 w.heap.size 1 (by simp; omega)
  simp at e0 e1
  have g0 : ∀ O, (w1.alloc O).cell? ⟨w.heap.size, 0, none⟩ = some (.int .i64 2) := fun O => (World.cell?_alloc_lt w1 O _ (by have := hb1.size; simp at this; simp; omega)).trans e0
  have g1 : ∀ O, (w1.alloc O).cell? ⟨w.heap.size, 1, none⟩ = some (.string nm) := fun O => (World.cell?_alloc_lt w1 O _ (by have := hb1.size; simp at this; simp; omega)).trans e1
  have hbw : Below w.heap.size w w1 := below_then (((Below.refl _ w).alloc (Nat.le_refl _) _).alloc (by simp) _) (by simp; omega) hb1
  have hz1 := hb1.size
  simp at hz1
  go_wp2
  all_goals go_ret
  all_goals refine ⟨ret_bool (by simp [rightV, rightK, HN.out, HK.out, *]), ?_⟩
  all_goals first | (go_grown; done) | exact below_then (hbw.alloc (by omega) _) (by simp; omega) hb2

set_option maxHeartbeats 4000000 in
set_option maxRecDepth 100000 in
theorem right_k3 (nm s : ByteArray) (n b : Int) (u : Value) (ks : List Int) (w : World) (hu : Ints w u ks) (_hnm : nm.size ≤ 9223372036854775807) :
    Calls Tryd.prog 20 #[.agg #[.int .i64 3, .string nm, .string s, .int .i64 n, .int .u32 b, u]] w fun e w' => e = .returned (.bool (rightV 3 nm s n b ks)) ∧ Below w.heap.size w w' := by
  obtain ⟨A, c, rfl, hl, hm, hc⟩ := id hu
  have hbox := hu.below (((Below.refl _ w).alloc (Nat.le_refl _) (boxA 3 nm s n b (.slice A ks.length c))).alloc (by simp) (.cells #[.int .i64 n] 3))
  have hone := ints_one (w.alloc (boxA 3 nm s n b (.slice A ks.length c))) n
  rw [World.size_alloc] at hone
  unfold boxA at hbox hone
  clear hc hm
  cases hn : mayB [n]
  · have HN := Lib.hid hn
    clear hn
    go_enter Tryd.func20, Tryd.ntmps20
    go_wp2_with fail
    refine (may_any _ _ _ hone).mono ?_; rintro e w1 ⟨rfl, rfl⟩; rw [HN.out]
    go_wp2
    go_ret
    exact ⟨ret_bool (by simp [rightV, HN.out]), by go_grown⟩
  cases hk : mayB ks
  · have HN := Lib.hid hn
    have HK := Lib.hid hk
    clear hn hk
    go_enter Tryd.func20, Tryd.ntmps20
    go_wp2_with fail
    refine (may_any _ _ _ hone).mono ?_; rintro e w1 ⟨rfl, rfl⟩; rw [HN.out]
    go_wp2_with fail
    refine (may_any _ _ _ hbox).mono ?_; rintro e w1 ⟨rfl, rfl⟩; rw [HK.out]
    go_wp2
    go_ret
    exact ⟨ret_bool (by simp [rightV, HN.out, HK.out]), by go_grown⟩
  have HN := Lib.hid hn
  have HK := Lib.hid hk
  clear hn hk
  have hl0 : (ks.length : Int) ≤ 9223372036854775807 := by unfold Ints at hu; obtain ⟨_, _, _, h1, h2, _⟩ := hu; unfold maxLen at h2; omega
  clear hu
  cases hne : nm.toList.isEmpty
  case false =>
    go_enter Tryd.func20, Tryd.ntmps20
    go_wp2_with fail
    refine (may_any _ _ _ hone).mono ?_; rintro e w1 ⟨rfl, rfl⟩; rw [HN.out]
    go_wp2_with fail
    refine (may_any _ _ _ hbox).mono ?_; rintro e w1 ⟨rfl, rfl⟩; rw [HK.out]
    clear hbox hone
    go_wp2_with fail
    refine (bare_3 _ _ _ _ _ _ _ _).mono ?_
    rintro e w1 ⟨rfl, hb1⟩
    have e0 := (bcell hb1).1 w.heap.size 0 (by simp; omega)
    have e1 := (bcell hb1).1 w.heap.size 1 (by simp; omega)
    simp at e0 e1
    have g0 : ∀ O, (w1.alloc O).cell? ⟨w.heap.size, 0, none⟩ = some (.int .i64 3) := fun O => (World.cell?_alloc_lt w1 O _ (by have := hb1.size; simp at this; simp; omega)).trans e0
    have g1 : ∀ O, (w1.alloc O).cell? ⟨w.heap.size, 1, none⟩ = some (.string nm) := fun O => (World.cell?_alloc_lt w1 O _ (by have := hb1.size; simp at this; simp; omega)).trans e1
    have hbw : Below w.heap.size w w1 := below_then (((Below.refl _ w).alloc (Nat.le_refl _) _).alloc (by simp) _) (by simp; omega) hb1
    have hz1 := hb1.size
    simp at hz1
    go_wp2
    go_ret
    exact ⟨ret_bool (by simp [rightV, rightK, hne]), by go_grown⟩
  have Hnm := Lib.hid hne
  skip
  cases hs : s.toList.isEmpty
  case false =>
    go_enter Tryd.func20, Tryd.ntmps20
    go_wp2_with fail
    refine (may_any _ _ _ hone).mono ?_; rintro e w1 ⟨rfl, rfl⟩; rw [HN.out]
    go_wp2_with fail
    refine (may_any _ _ _ hbox).mono ?_; rintro e w1 ⟨rfl, rfl⟩; rw [HK.out]
    clear hbox hone
    go_wp2_with fail
    refine (bare_3 _ _ _ _ _ _ _ _).mono ?_
    rintro e w1 ⟨rfl, hb1⟩
    have e0 := (bcell hb1).1 w.heap.size 0 (by simp; omega)
    have e1 := (bcell hb1).1 w.heap.size 1 (by simp; omega)
    simp at e0 e1
    have g0 : ∀ O, (w1.alloc O).cell? ⟨w.heap.size, 0, none⟩ = some (.int .i64 3) := fun O => (World.cell?_alloc_lt w1 O _ (by have := hb1.size; simp at this; simp; omega)).trans e0
    have g1 : ∀ O, (w1.alloc O).cell? ⟨w.heap.size, 1, none⟩ = some (.string nm) := fun O => (World.cell?_alloc_lt w1 O _ (by have := hb1.size; simp at this; simp; omega)).trans e1
    have hbw : Below w.heap.size w w1 := below_then (((Below.refl _ w).alloc (Nat.le_refl _) _).alloc (by simp) _) (by simp; omega) hb1
    have hz1 := hb1.size
    simp at hz1
    go_wp2
    go_ret
    exact ⟨ret_bool (by simp [rightV, rightK, hs]), by go_grown⟩
  have Hs := Lib.hid hs
  skip
  by_cases hn : n = 0
  case neg =>
    go_enter Tryd.func20, Tryd.ntmps20
    go_wp2_with fail
    refine (may_any _ _ _ hone).mono ?_; rintro e w1 ⟨rfl, rfl⟩; rw [HN.out]
    go_wp2_with fail
    refine (may_any _ _ _ hbox).mono ?_; rintro e w1 ⟨rfl, rfl⟩; rw [HK.out]
    clear hbox hone
    go_wp2_with fail
    refine (bare_3 _ _ _ _ _ _ _ _).mono ?_
    rintro e w1 ⟨rfl, hb1⟩
    have e0 := (bcell hb1).1 w.heap.size 0 (by simp; omega)
    have e1 := (bcell hb1).1 w.heap.size 1 (by simp; omega)
    simp at e0 e1
    have g0 : ∀ O, (w1.alloc O).cell? ⟨w.heap.size, 0, none⟩ = some (.int .i64 3) := fun O => (World.cell?_alloc_lt w1 O _ (by have := hb1.size; simp at this; simp; omega)).trans e0
    have g1 : ∀ O, (w1.alloc O).cell? ⟨w.heap.size, 1, none⟩ = some (.string nm) := fun O => (World.cell?_alloc_lt w1 O _ (by have := hb1.size; simp at this; simp; omega)).trans e1
    have hbw : Below w.heap.size w w1 := below_then (((Below.refl _ w).alloc (Nat.le_refl _) _).alloc (by simp) _) (by simp; omega) hb1
    have hz1 := hb1.size
    simp at hz1
    go_wp2
    go_ret
    exact ⟨ret_bool (by simp [rightV, rightK, hn]), by go_grown⟩
  subst hn
  by_cases hb : b = 0
  case neg =>
    go_enter Tryd.func20, Tryd.ntmps20
    go_wp2_with fail
    refine (may_any _ _ _ hone).mono ?_; rintro e w1 ⟨rfl, rfl⟩; rw [HN.out]
    go_wp2_with fail
    refine (may_any _ _ _ hbox).mono ?_; rintro e w1 ⟨rfl, rfl⟩; rw [HK.out]
    clear hbox hone
    go_wp2_with fail
    refine (bare_3 _ _ _ _ _ _ _ _).mono ?_
    rintro e w1 ⟨rfl, hb1⟩
    have e0 := (bcell hb1).1 w.heap.size 0 (by simp; omega)
    have e1 := (bcell hb1).1 w.heap.size 1 (by simp; omega)
    simp at e0 e1
    have g0 : ∀ O, (w1.alloc O).cell? ⟨w.heap.size, 0, none⟩ = some (.int .i64 3) := fun O => (World.cell?_alloc_lt w1 O _ (by have := hb1.size; simp at this; simp; omega)).trans e0
    have g1 : ∀ O, (w1.alloc O).cell? ⟨w.heap.size, 1, none⟩ = some (.string nm) := fun O => (World.cell?_alloc_lt w1 O _ (by have := hb1.size; simp at this; simp; omega)).trans e1
    have hbw : Below w.heap.size w w1 := below_then (((Below.refl _ w).alloc (Nat.le_refl _) _).alloc (by simp) _) (by simp; omega) hb1
    have hz1 := hb1.size
    simp at hz1
    go_wp2
    go_ret
    exact ⟨ret_bool (by simp [rightV, rightK, hb]), by go_grown⟩
  subst hb
  go_enter Tryd.func20, Tryd.ntmps20
  go_wp2_with fail
  refine (may_any _ _ _ hone).mono ?_; rintro e w1 ⟨rfl, rfl⟩; rw [HN.out]
  go_wp2_with fail
  refine (may_any _ _ _ hbox).mono ?_; rintro e w1 ⟨rfl, rfl⟩; rw [HK.out]
  clear hbox hone
  go_wp2_with fail
  refine (bare_3 _ _ _ _ _ _ _ _).mono ?_
  rintro e w1 ⟨rfl, hb1⟩
  have e0 := (bcell hb1).1 w.heap.size 0 (by simp; omega)
  have e1 := (bcell hb1).1 w.heap.size 1 (by simp; omega)
  simp at e0 e1
  have g0 : ∀ O, (w1.alloc O).cell? ⟨w.heap.size, 0, none⟩ = some (.int .i64 3) := fun O => (World.cell?_alloc_lt w1 O _ (by have := hb1.size; simp at this; simp; omega)).trans e0
  have g1 : ∀ O, (w1.alloc O).cell? ⟨w.heap.size, 1, none⟩ = some (.string nm) := fun O => (World.cell?_alloc_lt w1 O _ (by have := hb1.size; simp at this; simp; omega)).trans e1
  have hbw : Below w.heap.size w w1 := below_then (((Below.refl _ w).alloc (Nat.le_refl _) _).alloc (by simp) _) (by simp; omega) hb1
  have hz1 := hb1.size
  simp at hz1
  go_wp2
  all_goals go_ret
  all_goals refine ⟨ret_bool (by simp [rightV, rightK, HN.out, HK.out, *]), ?_⟩
  all_goals first | (go_grown; done) | exact below_then (hbw.alloc (by omega) _) (by simp; omega) hb2

set_option maxHeartbeats 4000000 in
set_option maxRecDepth 100000 in
theorem right_k4 (nm s : ByteArray) (n b : Int) (u : Value) (ks : List Int) (w : World) (hu : Ints w u ks) (hnm : nm.size ≤ 9223372036854775807) :
    Calls Tryd.prog 20 #[.agg #[.int .i64 4, .string nm, .string s, .int .i64 n, .int .u32 b, u]] w fun e w' => e = .returned (.bool (rightV 4 nm s n b ks)) ∧ Below w.heap.size w w' := by
  obtain ⟨A, c, rfl, hl, hm, hc⟩ := id hu
  have hbox := hu.below (((Below.refl _ w).alloc (Nat.le_refl _) (boxA 4 nm s n b (.slice A ks.length c))).alloc (by simp) (.cells #[.int .i64 n] 3))
  have hone := ints_one (w.alloc (boxA 4 nm s n b (.slice A ks.length c))) n
  rw [World.size_alloc] at hone
  unfold boxA at hbox hone
  clear hc hm
  cases hn : mayB [n]
  · have HN := Lib.hid hn
    clear hn
    go_enter Tryd.func20, Tryd.ntmps20
    go_wp2_with fail
    refine (may_any _ _ _ hone).mono ?_; rintro e w1 ⟨rfl, rfl⟩; rw [HN.out]
    go_wp2
    go_ret
    exact ⟨ret_bool (by simp [rightV, HN.out]), by go_grown⟩
  cases hk : mayB ks
  · have HN := Lib.hid hn
    have HK := Lib.hid hk
    clear hn hk
    go_enter Tryd.func20, Tryd.ntmps20
    go_wp2_with fail
    refine (may_any _ _ _ hone).mono ?_; rintro e w1 ⟨rfl, rfl⟩; rw [HN.out]
    go_wp2_with fail
    refine (may_any _ _ _ hbox).mono ?_; rintro e w1 ⟨rfl, rfl⟩; rw [HK.out]
    go_wp2
    go_ret
    exact ⟨ret_bool (by simp [rightV, HN.out, HK.out]), by go_grown⟩
  have HN := Lib.hid hn
  have HK := Lib.hid hk
  clear hn hk
  have hl0 : (ks.length : Int) ≤ 9223372036854775807 := by unfold Ints at hu; obtain ⟨_, _, _, h1, h2, _⟩ := hu; unfold maxLen at h2; omega
  clear hu
  cases hs : s.toList.isEmpty
  case false =>
    go_enter Tryd.func20, Tryd.ntmps20
    go_wp2_with fail
    refine (may_any _ _ _ hone).mono ?_; rintro e w1 ⟨rfl, rfl⟩; rw [HN.out]
    go_wp2_with fail
    refine (may_any _ _ _ hbox).mono ?_; rintro e w1 ⟨rfl, rfl⟩; rw [HK.out]
    clear hbox hone
    go_wp2_with fail
    refine (bare_4 _ _ _ _ _ _ _ _).mono ?_
    rintro e w1 ⟨rfl, hb1⟩
    have e0 := (bcell hb1).1 w.heap.size 0 (by simp; omega)
    have e1 := (bcell hb1).1 w.heap.size 1 (by simp; omega)
    simp at e0 e1
    have g0 : ∀ O, (w1.alloc O).cell? ⟨w.heap.size, 0, none⟩ = some (.int .i64 4) := fun O => (World.cell?_alloc_lt w1 O _ (by have := hb1.size; simp at this; simp; omega)).trans e0
    have g1 : ∀ O, (w1.alloc O).cell? ⟨w.heap.size, 1, none⟩ = some (.string nm) := fun O => (World.cell?_alloc_lt w1 O _ (by have := hb1.size; simp at this; simp; omega)).trans e1
    have hbw : Below w.heap.size w w1 := below_then (((Below.refl _ w).alloc (Nat.le_refl _) _).alloc (by simp) _) (by simp; omega) hb1
    have hz1 := hb1.size
    simp at hz1
    go_wp2
    go_ret
    exact ⟨ret_bool (by simp [rightV, rightK, hs]), by go_grown⟩
  have Hs := Lib.hid hs
  skip
  by_cases hl1 : ks.length = 0
  case neg =>
    have hl2 : 0 < ks.length := by omega
    clear hl1
    go_enter Tryd.func20, Tryd.ntmps20
    go_wp2_with fail
    refine (may_any _ _ _ hone).mono ?_; rintro e w1 ⟨rfl, rfl⟩; rw [HN.out]
    go_wp2_with fail
    refine (may_any _ _ _ hbox).mono ?_; rintro e w1 ⟨rfl, rfl⟩; rw [HK.out]
    clear hbox hone
    go_wp2_with fail
    refine (bare_4 _ _ _ _ _ _ _ _).mono ?_
    rintro e w1 ⟨rfl, hb1⟩
    have e0 := (bcell hb1).1 w.heap.size 0 (by simp; omega)
    have e1 := (bcell hb1).1 w.heap.size 1 (by simp; omega)
    simp at e0 e1
    have g0 : ∀ O, (w1.alloc O).cell? ⟨w.heap.size, 0, none⟩ = some (.int .i64 4) := fun O => (World.cell?_alloc_lt w1 O _ (by have := hb1.size; simp at this; simp; omega)).trans e0
    have g1 : ∀ O, (w1.alloc O).cell? ⟨w.heap.size, 1, none⟩ = some (.string nm) := fun O => (World.cell?_alloc_lt w1 O _ (by have := hb1.size; simp at this; simp; omega)).trans e1
    have hbw : Below w.heap.size w w1 := below_then (((Below.refl _ w).alloc (Nat.le_refl _) _).alloc (by simp) _) (by simp; omega) hb1
    have hz1 := hb1.size
    simp at hz1
    go_wp2
    go_ret
    exact ⟨ret_bool (by simp [rightV, rightK, (show ¬ ks = [] by rintro rfl; simp at hl2)]), by go_grown⟩
  obtain rfl : ks = [] := List.eq_nil_of_length_eq_zero hl1
  clear hl1 hl0 hl
  simp only [List.length_nil] at *
  go_enter Tryd.func20, Tryd.ntmps20
  go_wp2_with fail
  refine (may_any _ _ _ hone).mono ?_; rintro e w1 ⟨rfl, rfl⟩; rw [HN.out]
  go_wp2_with fail
  refine (may_any _ _ _ hbox).mono ?_; rintro e w1 ⟨rfl, rfl⟩; rw [HK.out]
  clear hbox hone
  go_wp2_with fail
  refine (bare_4 _ _ _ _ _ _ _ _).mono ?_
  rintro e w1 ⟨rfl, hb1⟩
  have e0 := (bcell hb1).1 w.heap.size 0 (by simp; omega)
  have e1 := (bcell hb1).1 w.heap.size 1 (by simp; omega)
  simp at e0 e1
  have g0 : ∀ O, (w1.alloc O).cell? ⟨w.heap.size, 0, none⟩ = some (.int .i64 4) := fun O => (World.cell?_alloc_lt w1 O _ (by have := hb1.size; simp at this; simp; omega)).trans e0
  have g1 : ∀ O, (w1.alloc O).cell? ⟨w.heap.size, 1, none⟩ = some (.string nm) := fun O => (World.cell?_alloc_lt w1 O _ (by have := hb1.size; simp at this; simp; omega)).trans e1
  have hbw : Below w.heap.size w w1 := below_then (((Below.refl _ w).alloc (Nat.le_refl _) _).alloc (by simp) _) (by simp; omega) hb1
  have hz1 := hb1.size
  simp at hz1
  go_wp2_with (go_at_call 36; refine (right_any _ _ hnm).mono ?_; rintro e w2 ⟨rfl, hb2⟩)
  all_goals go_ret
  all_goals refine ⟨ret_bool (by simp [rightV, rightK, HN.out, HK.out, *]), ?_⟩
  all_goals first | (go_grown; done) | exact below_then (hbw.alloc (by omega) _) (by simp; omega) hb2

set_option maxHeartbeats 4000000 in
set_option maxRecDepth 100000 in
theorem right_k5 (nm s : ByteArray) (n b : Int) (u : Value) (ks : List Int) (w : World) (hu : Ints w u ks) (_hnm : nm.size ≤ 9223372036854775807) :
    Calls Tryd.prog 20 #[.agg #[.int .i64 5, .string nm, .string s, .int .i64 n, .int .u32 b, u]] w fun e w' => e = .returned (.bool (rightV 5 nm s n b ks)) ∧ Below w.heap.size w w' := by
  obtain ⟨A, c, rfl, hl, hm, hc⟩ := id hu
  have hbox := hu.below (((Below.refl _ w).alloc (Nat.le_refl _) (boxA 5 nm s n b (.slice A ks.length c))).alloc (by simp) (.cells #[.int .i64 n] 3))
  have hone := ints_one (w.alloc (boxA 5 nm s n b (.slice A ks.length c))) n
  rw [World.size_alloc] at hone
  unfold boxA at hbox hone
  clear hc hm
  cases hn : mayB [n]
  · have HN := Lib.hid hn
    clear hn
    go_enter Tryd.func20, Tryd.ntmps20
    go_wp2_with fail
    refine (may_any _ _ _ hone).mono ?_; rintro e w1 ⟨rfl, rfl⟩; rw [HN.out]
    go_wp2
    go_ret
    exact ⟨ret_bool (by simp [rightV, HN.out]), by go_grown⟩
  cases hk : mayB ks
  · have HN := Lib.hid hn
    have HK := Lib.hid hk
    clear hn hk
    go_enter Tryd.func20, Tryd.ntmps20
    go_wp2_with fail
    refine (may_any _ _ _ hone).mono ?_; rintro e w1 ⟨rfl, rfl⟩; rw [HN.out]
    go_wp2_with fail
    refine (may_any _ _ _ hbox).mono ?_; rintro e w1 ⟨rfl, rfl⟩; rw [HK.out]
    go_wp2
    go_ret
    exact ⟨ret_bool (by simp [rightV, HN.out, HK.out]), by go_grown⟩
  have HN := Lib.hid hn
  have HK := Lib.hid hk
  clear hn hk
  have hl0 : (ks.length : Int) ≤ 9223372036854775807 := by unfold Ints at hu; obtain ⟨_, _, _, h1, h2, _⟩ := hu; unfold maxLen at h2; omega
  clear hu
  cases hne : nm.toList.isEmpty
  case false =>
    go_enter Tryd.func20, Tryd.ntmps20
    go_wp2_with fail
    refine (may_any _ _ _ hone).mono ?_; rintro e w1 ⟨rfl, rfl⟩; rw [HN.out]
    go_wp2_with fail
    refine (may_any _ _ _ hbox).mono ?_; rintro e w1 ⟨rfl, rfl⟩; rw [HK.out]
    clear hbox hone
    go_wp2_with fail
    refine (bare_5 _ _ _ _ _ _ _ _).mono ?_
    rintro e w1 ⟨rfl, hb1⟩
    have e0 := (bcell hb1).1 w.heap.size 0 (by simp; omega)
    have e1 := (bcell hb1).1 w.heap.size 1 (by simp; omega)
    simp at e0 e1
    have g0 : ∀ O, (w1.alloc O).cell? ⟨w.heap.size, 0, none⟩ = some (.int .i64 5) := fun O => (World.cell?_alloc_lt w1 O _ (by have := hb1.size; simp at this; simp; omega)).trans e0
    have g1 : ∀ O, (w1.alloc O).cell? ⟨w.heap.size, 1, none⟩ = some (.string nm) := fun O => (World.cell?_alloc_lt w1 O _ (by have := hb1.size; simp at this; simp; omega)).trans e1
    have hbw : Below w.heap.size w w1 := below_then (((Below.refl _ w).alloc (Nat.le_refl _) _).alloc (by simp) _) (by simp; omega) hb1
    have hz1 := hb1.size
    simp at hz1
    go_wp2
    go_ret
    exact ⟨ret_bool (by simp [rightV, rightK, hne]), by go_grown⟩
  have Hnm := Lib.hid hne
  skip
  cases hs : s.toList.isEmpty
  case false =>
    go_enter Tryd.func20, Tryd.ntmps20
    go_wp2_with fail
    refine (may_any _ _ _ hone).mono ?_; rintro e w1 ⟨rfl, rfl⟩; rw [HN.out]
    go_wp2_with fail
    refine (may_any _ _ _ hbox).mono ?_; rintro e w1 ⟨rfl, rfl⟩; rw [HK.out]
    clear hbox hone
    go_wp2_with fail
    refine (bare_5 _ _ _ _ _ _ _ _).mono ?_
    rintro e w1 ⟨rfl, hb1⟩
    have e0 := (bcell hb1).1 w.heap.size 0 (by simp; omega)
    have e1 := (bcell hb1).1 w.heap.size 1 (by simp; omega)
    simp at e0 e1
    have g0 : ∀ O, (w1.alloc O).cell? ⟨w.heap.size, 0, none⟩ = some (.int .i64 5) := fun O => (World.cell?_alloc_lt w1 O _ (by have := hb1.size; simp at this; simp; omega)).trans e0
    have g1 : ∀ O, (w1.alloc O).cell? ⟨w.heap.size, 1, none⟩ = some (.string nm) := fun O => (World.cell?_alloc_lt w1 O _ (by have := hb1.size; simp at this; simp; omega)).trans e1
    have hbw : Below w.heap.size w w1 := below_then (((Below.refl _ w).alloc (Nat.le_refl _) _).alloc (by simp) _) (by simp; omega) hb1
    have hz1 := hb1.size
    simp at hz1
    go_wp2
    go_ret
    exact ⟨ret_bool (by simp [rightV, rightK, hs]), by go_grown⟩
  have Hs := Lib.hid hs
  skip
  by_cases hn : n = 0
  case neg =>
    go_enter Tryd.func20, Tryd.ntmps20
    go_wp2_with fail
    refine (may_any _ _ _ hone).mono ?_; rintro e w1 ⟨rfl, rfl⟩; rw [HN.out]
    go_wp2_with fail
    refine (may_any _ _ _ hbox).mono ?_; rintro e w1 ⟨rfl, rfl⟩; rw [HK.out]
    clear hbox hone
    go_wp2_with fail
    refine (bare_5 _ _ _ _ _ _ _ _).mono ?_
    rintro e w1 ⟨rfl, hb1⟩
    have e0 := (bcell hb1).1 w.heap.size 0 (by simp; omega)
    have e1 := (bcell hb1).1 w.heap.size 1 (by simp; omega)
    simp at e0 e1
    have g0 : ∀ O, (w1.alloc O).cell? ⟨w.heap.size, 0, none⟩ = some (.int .i64 5) := fun O => (World.cell?_alloc_lt w1 O _ (by have := hb1.size; simp at this; simp; omega)).trans e0
    have g1 : ∀ O, (w1.alloc O).cell? ⟨w.heap.size, 1, none⟩ = some (.string nm) := fun O => (World.cell?_alloc_lt w1 O _ (by have := hb1.size; simp at this; simp; omega)).trans e1
    have hbw : Below w.heap.size w w1 := below_then (((Below.refl _ w).alloc (Nat.le_refl _) _).alloc (by simp) _) (by simp; omega) hb1
    have hz1 := hb1.size
    simp at hz1
    go_wp2
    go_ret
    exact ⟨ret_bool (by simp [rightV, rightK, hn]), by go_grown⟩
  subst hn
  by_cases hb : b = 0
  case neg =>
    go_enter Tryd.func20, Tryd.ntmps20
    go_wp2_with fail
    refine (may_any _ _ _ hone).mono ?_; rintro e w1 ⟨rfl, rfl⟩; rw [HN.out]
    go_wp2_with fail
    refine (may_any _ _ _ hbox).mono ?_; rintro e w1 ⟨rfl, rfl⟩; rw [HK.out]
    clear hbox hone
    go_wp2_with fail
    refine (bare_5 _ _ _ _ _ _ _ _).mono ?_
    rintro e w1 ⟨rfl, hb1⟩
    have e0 := (bcell hb1).1 w.heap.size 0 (by simp; omega)
    have e1 := (bcell hb1).1 w.heap.size 1 (by simp; omega)
    simp at e0 e1
    have g0 : ∀ O, (w1.alloc O).cell? ⟨w.heap.size, 0, none⟩ = some (.int .i64 5) := fun O => (World.cell?_alloc_lt w1 O _ (by have := hb1.size; simp at this; simp; omega)).trans e0
    have g1 : ∀ O, (w1.alloc O).cell? ⟨w.heap.size, 1, none⟩ = some (.string nm) := fun O => (World.cell?_alloc_lt w1 O _ (by have := hb1.size; simp at this; simp; omega)).trans e1
    have hbw : Below w.heap.size w w1 := below_then (((Below.refl _ w).alloc (Nat.le_refl _) _).alloc (by simp) _) (by simp; omega) hb1
    have hz1 := hb1.size
    simp at hz1
    go_wp2
    go_ret
    exact ⟨ret_bool (by simp [rightV, rightK, hb]), by go_grown⟩
  subst hb
  by_cases hl1 : ks.length = 0
  case neg =>
    have hl2 : 0 < ks.length := by omega
    clear hl1
    go_enter Tryd.func20, Tryd.ntmps20
    go_wp2_with fail
    refine (may_any _ _ _ hone).mono ?_; rintro e w1 ⟨rfl, rfl⟩; rw [HN.out]
    go_wp2_with fail
    refine (may_any _ _ _ hbox).mono ?_; rintro e w1 ⟨rfl, rfl⟩; rw [HK.out]
    clear hbox hone
    go_wp2_with fail
    refine (bare_5 _ _ _ _ _ _ _ _).mono ?_
    rintro e w1 ⟨rfl, hb1⟩
    have e0 := (bcell hb1).1 w.heap.size 0 (by simp; omega)
    have e1 := (bcell hb1).1 w.heap.size 1 (by simp; omega)
    simp at e0 e1
    have g0 : ∀ O, (w1.alloc O).cell? ⟨w.heap.size, 0, none⟩ = some (.int .i64 5) := fun O => (World.cell?_alloc_lt w1 O _ (by have := hb1.size; simp at this; simp; omega)).trans e0
    have g1 : ∀ O, (w1.alloc O).cell? ⟨w.heap.size, 1, none⟩ = some (.string nm) := fun O => (World.cell?_alloc_lt w1 O _ (by have := hb1.size; simp at this; simp; omega)).trans e1
    have hbw : Below w.heap.size w w1 := below_then (((Below.refl _ w).alloc (Nat.le_refl _) _).alloc (by simp) _) (by simp; omega) hb1
    have hz1 := hb1.size
    simp at hz1
    go_wp2
    go_ret
    exact ⟨ret_bool (by simp [rightV, rightK, (show ¬ ks = [] by rintro rfl; simp at hl2)]), by go_grown⟩
  obtain rfl : ks = [] := List.eq_nil_of_length_eq_zero hl1
  clear hl1 hl0 hl
  simp only [List.length_nil] at *
  go_enter Tryd.func20, Tryd.ntmps20
  go_wp2_with fail
  refine (may_any _ _ _ hone).mono ?_; rintro e w1 ⟨rfl, rfl⟩; rw [HN.out]
  go_wp2_with fail
  refine (may_any _ _ _ hbox).mono ?_; rintro e w1 ⟨rfl, rfl⟩; rw [HK.out]
  clear hbox hone
  go_wp2_with fail
  refine (bare_5 _ _ _ _ _ _ _ _).mono ?_
  rintro e w1 ⟨rfl, hb1⟩
  have e0 := (bcell hb1).1 w.heap.size 0 (by simp; omega)
  have e1 := (bcell hb1).1 w.heap.size 1 (by simp; omega)
  simp at e0 e1
  have g0 : ∀ O, (w1.alloc O).cell? ⟨w.heap.size, 0, none⟩ = some (.int .i64 5) := fun O => (World.cell?_alloc_lt w1 O _ (by have := hb1.size; simp at this; simp; omega)).trans e0
  have g1 : ∀ O, (w1.alloc O).cell? ⟨w.heap.size, 1, none⟩ = some (.string nm) := fun O => (World.cell?_alloc_lt w1 O _ (by have := hb1.size; simp at this; simp; omega)).trans e1
  have hbw : Below w.heap.size w w1 := below_then (((Below.refl _ w).alloc (Nat.le_refl _) _).alloc (by simp) _) (by simp; omega) hb1
  have hz1 := hb1.size
  simp at hz1
  go_wp2
  all_goals go_ret
  all_goals refine ⟨ret_bool (by simp [rightV, rightK, HN.out, HK.out, *]), ?_⟩
  all_goals first | (go_grown; done) | exact below_then (hbw.alloc (by omega) _) (by simp; omega) hb2
end Go.Proofs.YthecllooledpaaaDoor
