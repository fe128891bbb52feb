/- Contracts of script's and fs's smallest functions. -/
import Derived.Test.YthecllooledpaaaDoorM
namespace Go.Proofs.YthecllooledpaaaDoor
open Go.RowKit

set_option maxHeartbeats 400000 in
theorem must_so (w : World) : Calls Tryd.prog 33 #[.bool true] w fun e w' => e = .returned (.tuple #[]) ∧ w = w' := by
  go_enter Tryd.func33, Tryd.ntmps33
  go_wp2
  go_end0
  exact ⟨rfl, rfl⟩

set_option maxHeartbeats 400000 in
theorem must_not (w : World) : Calls Tryd.prog 33 #[.bool false] w fun e w' => e = .panicked [{ v := .iface 66 (.agg #[]), recovered := false }] ∧ w = w' := by
  go_enter Tryd.func33, Tryd.ntmps33
  go_wp2
  exact ⟨rfl, rfl, rfl⟩

def orB (s : ByteArray) : ByteArray := if s.toList.isEmpty = true then ⟨#[45]⟩ else s
set_option maxHeartbeats 400000 in
theorem or_any (s : ByteArray) (w : World) : Calls Tryd.prog 21 #[.string s] w fun e w' => e = .returned (.string (orB s)) ∧ w = w' := by
  cases h : s.toList.isEmpty
  all_goals
    go_enter Tryd.func21, Tryd.ntmps21
    go_wp2
    go_ret
    exact ⟨by simp [orB, h], rfl⟩

def letterB (c : Int) : Bool := (decide (97 ≤ c) && decide (c ≤ 122)) || (decide (48 ≤ c) && decide (c ≤ 57)) || (c == 46)
set_option maxHeartbeats 400000 in
theorem letter_any (c : Int) (w : World) : Calls Tryd.prog 47 #[.int .u8 c] w fun e w' => e = .returned (.bool (letterB c)) ∧ w = w' := by
  go_enter Tryd.func47, Tryd.ntmps47
  go_wp2
  all_goals
    go_ret
    exact ⟨ret_bool (by simp only [letterB]; rw [Bool.eq_iff_iff]; simp; omega), rfl⟩

def bitsOk (n : Int) : Prop := 0 ≤ n ∧ n < 4294967296
set_option maxHeartbeats 400000 in
theorem bits_so (n : Int) (h0 : 0 ≤ n) (h1 : n < 4294967296) (w : World) : Calls Tryd.prog 32 #[.int .i64 n] w fun e w' => e = .returned (.int .u32 n) ∧ w = w' := by
  go_enter Tryd.func32, Tryd.ntmps32
  go_wp2_with (go_at_call 33; refine (must_so _).mono ?_; rintro e w' ⟨rfl, rfl⟩)
  go_ret
  exact ⟨by simp, rfl⟩

set_option maxHeartbeats 400000 in
theorem of_any (k : Int) (nm s : ByteArray) (n b : Int) (A : Option Addr) (l c : Nat) (w : World) :
    Calls Tryd.prog 15 #[.agg #[.int .i64 k, .string nm, .string s, .int .i64 n, .int .u32 b, .slice A l c]] w fun e w' => e = .returned (.agg #[.int .i64 k, .string nm, .string s, .int .i64 n, .int .u32 b, .slice A l c]) ∧ Below w.heap.size w w' := by
  go_enter Tryd.func15, Tryd.ntmps15
  go_wp2
  refine bodyPost_ret (v := .agg #[.int .i64 k, .string nm, .string s, .int .i64 n, .int .u32 b, .slice A l c]) (by simp [results, Tryd.results15, go_sem]) rfl ⟨rfl, ?_⟩
  go_grown

/-- 'bare': an act without what its line has. -/
def bareA (a : Act) : Act :=
  if a.kind = 0 then { a with name := ⟨#[]⟩, s := ⟨#[]⟩ }
  else if a.kind = 2 then { a with n := 0 }
  else if a.kind = 3 then { a with keep := [] }
  else if a.kind = 4 then { a with name := ⟨#[]⟩, n := 0, bits := 0 }
  else a
set_option maxHeartbeats 800000 in
theorem bare_any (k : Int) (nm s : ByteArray) (n b : Int) (A : Option Addr) (l c : Nat) (w : World) :
    Calls Tryd.prog 35 #[.agg #[.int .i64 k, .string nm, .string s, .int .i64 n, .int .u32 b, .slice A l c]] w fun e w' =>
      e = .returned (if k = 0 then .agg #[.int .i64 k, .string ⟨#[]⟩, .string ⟨#[]⟩, .int .i64 n, .int .u32 b, .slice A l c] else if k = 2 then .agg #[.int .i64 k, .string nm, .string s, .int .i64 0, .int .u32 b, .slice A l c]
        else if k = 3 then .agg #[.int .i64 k, .string nm, .string s, .int .i64 n, .int .u32 b, .slice none 0 0] else if k = 4 then .agg #[.int .i64 k, .string ⟨#[]⟩, .string s, .int .i64 0, .int .u32 0, .slice A l c]
        else .agg #[.int .i64 k, .string nm, .string s, .int .i64 n, .int .u32 b, .slice A l c]) ∧ Below w.heap.size w w' := by
  by_cases h0 : k = 0
  · subst h0
    go_enter Tryd.func35, Tryd.ntmps35
    go_wp2
    refine bodyPost_ret (v := .agg #[.int .i64 0, .string ⟨#[]⟩, .string ⟨#[]⟩, .int .i64 n, .int .u32 b, .slice A l c]) (by simp [results, Tryd.results35, go_sem]) rfl ⟨by simp, ?_⟩
    go_grown
  by_cases h2 : k = 2
  · subst h2
    go_enter Tryd.func35, Tryd.ntmps35
    go_wp2
    refine bodyPost_ret (v := .agg #[.int .i64 2, .string nm, .string s, .int .i64 0, .int .u32 b, .slice A l c]) (by simp [results, Tryd.results35, go_sem]) rfl ⟨by simp, ?_⟩
    go_grown
  by_cases h3 : k = 3
  · subst h3
    go_enter Tryd.func35, Tryd.ntmps35
    go_wp2
    refine bodyPost_ret (v := .agg #[.int .i64 3, .string nm, .string s, .int .i64 n, .int .u32 b, .slice none 0 0]) (by simp [results, Tryd.results35, go_sem]) rfl ⟨by simp, ?_⟩
    go_grown
  by_cases h4 : k = 4
  · subst h4
    go_enter Tryd.func35, Tryd.ntmps35
    go_wp2
    refine bodyPost_ret (v := .agg #[.int .i64 4, .string ⟨#[]⟩, .string s, .int .i64 0, .int .u32 0, .slice A l c]) (by simp [results, Tryd.results35, go_sem]) rfl ⟨by simp, ?_⟩
    go_grown
  rw [if_neg h0, if_neg h2, if_neg h3, if_neg h4]
  go_enter Tryd.func35, Tryd.ntmps35
  go_wp2
  refine bodyPost_ret (v := .agg #[.int .i64 k, .string nm, .string s, .int .i64 n, .int .u32 b, .slice A l c]) (by simp [results, Tryd.results35, go_sem]) rfl ⟨rfl, ?_⟩
  go_grown
end Go.Proofs.YthecllooledpaaaDoor
