/- script.Line: an act's line. -/
import Derived.Test.YthecllooledpaaaDoorR
import Derived.Test.YthecllooledpaaaDoorH
import Derived.Test.YthecllooledpaaaDoorL
namespace Go.Proofs.YthecllooledpaaaDoor
open Go.RowKit

set_option maxHeartbeats 2000000 in
set_option maxRecDepth 100000 in
theorem right_out (k : Int) (hk : k < 0 ∨ 5 < k) (nm s : ByteArray) (n b : Int) (A : Option Addr) (l c : Nat) (w : World) :
    Calls Tryd.prog 20 #[.agg #[.int .i64 k, .string nm, .string s, .int .i64 n, .int .u32 b, .slice A l c]] w fun e w' => e = .returned (.bool false) ∧ Below w.heap.size w w' := by
  rcases hk with hk | hk
  · go_enter Tryd.func20, Tryd.ntmps20
    go_wp2
    go_ret
    exact ⟨rfl, by go_grown⟩
  · have hk0 : ¬ k < 0 := by omega
    go_enter Tryd.func20, Tryd.ntmps20
    go_wp2
    go_ret
    exact ⟨rfl, by go_grown⟩

theorem right_v (k : Int) (nm s : ByteArray) (n b : Int) (u : Value) (ks : List Int) (w : World) (hu : Ints w u ks) (hnm : nm.size ≤ 9223372036854775807) :
    Calls Tryd.prog 20 #[.agg #[.int .i64 k, .string nm, .string s, .int .i64 n, .int .u32 b, u]] w fun e w' => e = .returned (.bool (rightV k nm s n b ks)) ∧ Below w.heap.size w w' := by
  by_cases h0 : k = 0
  · subst h0; exact right_k0 nm s n b u ks w hu hnm
  by_cases h1 : k = 1
  · subst h1; exact right_k1 nm s n b u ks w hu hnm
  by_cases h2 : k = 2
  · subst h2; exact right_k2 nm s n b u ks w hu hnm
  by_cases h3 : k = 3
  · subst h3; exact right_k3 nm s n b u ks w hu hnm
  by_cases h4 : k = 4
  · subst h4; exact right_k4 nm s n b u ks w hu hnm
  by_cases h5 : k = 5
  · subst h5; exact right_k5 nm s n b u ks w hu hnm
  have hk : k < 0 ∨ 5 < k := by omega
  obtain ⟨A, c, rfl, _⟩ := hu
  refine (right_out k hk nm s n b A _ c w).mono fun e w' ⟨he, hb⟩ => ⟨?_, hb⟩
  rw [he, ret_bool]
  unfold rightV
  rcases hk with hk | hk
  · rw [decide_eq_false (show ¬ 0 ≤ k by omega)]; simp
  · rw [decide_eq_false (show ¬ k ≤ 5 by omega)]; simp

def orL (l : List UInt8) : List UInt8 := if l.isEmpty = true then [45] else l
theorem orB_toList (l : List UInt8) : orB ⟨l.toArray⟩ = ⟨(orL l).toArray⟩ := by
  unfold orB orL
  rw [ByteArray.toList_eq]
  cases l <;> rfl
def putL : List UInt8 := [112, 117, 116]
def runL : List UInt8 := [114, 117, 110]
def armL : List UInt8 := [97, 114, 109]
def riseL : List UInt8 := [114, 105, 115, 101]
def turnL : List UInt8 := [116, 117, 114, 110]
def clearL : List UInt8 := [99, 108, 101, 97, 114]
/-- The words of an act's line. -/
def wordsL (k : Int) (nm s : List UInt8) (n b : Int) (ks : List Int) : List (List UInt8) :=
  if k = 0 then [putL, nm, orL (hexL s)] else if k = 1 then [runL] else if k = 2 then [armL, Lib.itoa n] else if k = 3 then [riseL, orL (Lib.join (ks.map Lib.itoa) [44])]
  else if k = 4 then [turnL, nm, Lib.itoa n, Lib.itoa b] else [clearL]
def lineL (k : Int) (nm s : List UInt8) (n b : Int) (ks : List Int) : List UInt8 := Lib.join (wordsL k nm s n b ks) [32]

set_option maxHeartbeats 2000000 in
set_option maxRecDepth 100000 in
theorem line_not (k : Int) (nm s : ByteArray) (n b : Int) (u : Value) (ks : List Int) (w : World) (hu : Ints w u ks) (hnm : nm.size ≤ 9223372036854775807) (hr : rightV k nm s n b ks = false) :
    Calls Tryd.prog 12 #[.agg #[.int .i64 k, .string nm, .string s, .int .i64 n, .int .u32 b, u]] w fun e w' => e = .returned (.tuple #[.string ⟨#[]⟩, .bool false]) ∧ Below w.heap.size w w' := by
  obtain ⟨A, c, rfl, hl, hm, hc⟩ := id hu
  have hbox := hu.below ((Below.refl _ w).alloc (Nat.le_refl _) (boxA k nm s n b (.slice A ks.length c)))
  unfold boxA at hbox
  have HR := Lib.hid hr
  clear hc hm hl hu hr
  go_enter Tryd.func12, Tryd.ntmps12
  go_wp2_with fail
  refine (right_v _ _ _ _ _ _ _ _ hbox hnm).mono ?_
  rintro e w1 ⟨rfl, hb1⟩
  rw [HR.out]
  go_wp2
  go_ret2
  exact ⟨rfl, below_then ((Below.refl _ w).alloc (Nat.le_refl _) _) (by simp) hb1⟩

set_option maxHeartbeats 2000000 in
set_option maxRecDepth 100000 in
theorem line_1 (nm s : ByteArray) (n b : Int) (u : Value) (ks : List Int) (w : World) (hu : Ints w u ks) (hnm : nm.size ≤ 9223372036854775807) (hr : rightV 1 nm s n b ks = true) :
    Calls Tryd.prog 12 #[.agg #[.int .i64 1, .string nm, .string s, .int .i64 n, .int .u32 b, u]] w fun e w' => e = .returned (.tuple #[.string ⟨(lineL 1 nm.data.toList s.data.toList n b ks).toArray⟩, .bool true]) ∧ Below w.heap.size w w' := by
  obtain ⟨A, c, rfl, hl, hm, hc⟩ := id hu
  have hbox := hu.below ((Below.refl _ w).alloc (Nat.le_refl _) (boxA 1 nm s n b (.slice A ks.length c)))
  unfold boxA at hbox
  have HR := Lib.hid hr
  clear hc hm hl hu hr
  go_enter Tryd.func12, Tryd.ntmps12
  go_wp2_with fail
  refine (right_v _ _ _ _ _ _ _ _ hbox hnm).mono ?_
  rintro e w1 ⟨rfl, hb1⟩
  rw [HR.out]
  have e0 := (bcell hb1).1 w.heap.size 0 (by simp)
  simp at e0
  have hbw : Below w.heap.size w w1 := below_then ((Below.refl _ w).alloc (Nat.le_refl _) _) (by simp) hb1
  go_wp2_with fail
  refine (join_any w1.heap.size 1 [⟨#[114, 117, 110]⟩] ⟨#[32]⟩ _ (heap_alloc_new w1 _) (by simp) (by simp) (by simp [Lib.join, List.intercalate])).mono ?_
  rintro e w2 ⟨rfl, hb2⟩
  go_wp2
  go_ret2
  exact ⟨rfl, below_then (hbw.alloc hbw.size _) (by have := hbw.size; simp; omega) hb2⟩
end Go.Proofs.YthecllooledpaaaDoor
