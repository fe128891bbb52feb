/- commit: the steps of Save. -/
import Derived.Test.YtdmmfeglnmkmdaaL1
import Derived.Test.YtdmmfeglnmkmdaaM8
import Derived.Test.YtdmmfeglnmkmdaaM4
namespace Go.Proofs.Ytdmmfeglnmkmdaa
open Go.RowKit Plain


def nN : ByteArray := ⟨#[109, 97, 110, 105, 102, 101, 115, 116]⟩
def nW : ByteArray := ⟨#[109, 97, 110, 105, 102, 101, 115, 116, 46, 110, 101, 119]⟩
theorem nN_name : nameB nN.data.toList = true := by decide
theorem nW_name : nameB nW.data.toList = true := by decide
theorem nN_size : nN.size ≤ maxLen := by decide
theorem nW_size : nW.size ≤ maxLen := by decide
theorem nW_ne : nW ≠ nN := by decide

/-- The five steps of Save: what each answers, and what it leaves. -/
def Dk.clearR (x : Dk) : Int × Dk := if x.findE nW = 0 then (x.called.findE nW, x.called.removed nW) else if x.findE nW = 2 then (0, x.called) else (x.findE nW, x.called)
def Dk.stepR (x : Dk) (s : ByteArray) : Nat → Int × Dk
  | 0 => x.clearR
  | 1 => (x.createE nW, x.created nW)
  | 2 => (x.appendE nW s, x.appended nW s)
  | 3 => (x.findE nW, x.synced nW)
  | _ => (x.findE nW, x.renamed nW nN)
def Dk.saveR (s : ByteArray) : Nat → Nat → Dk → Int × Dk
  | _, 0, x => (0, x)
  | k, n + 1, x => if (x.stepR s k).1 = 0 then Dk.saveR s (k + 1) n (x.stepR s k).2 else x.stepR s k

set_option maxHeartbeats 1600000 in
theorem clear_any (d m : Nat) (x : Dk) (w : World) (h : IsDisk w d m x) :
    Calls Try.prog 31 #[.pointer (some ⟨d, 0, none⟩)] w fun e w' => e = .returned (.int .i64 x.clearR.1) ∧ IsDisk w' d m x.clearR.2 ∧ Turn d m w w' := by
  go_enter Try.func31, Try.ntmps31
  go_wp2_with fail
  refine (size_any d m x nW _ h nW_size nW_name).mono ?_
  rintro e w1 ⟨rfl, h1, T1⟩
  rcases x.findE_cases nW with hE | hE | hE
  · have hc : x.clearR = (x.called.findE nW, x.called.removed nW) := by unfold Dk.clearR; rw [if_pos hE]
    have HC := Lib.hid hc
    rw [hE]
    clear hc hE h
    go_wp2_with fail
    refine (remove_any d m x.called nW _ h1 nW_size nW_name).mono ?_
    rintro e w2 ⟨rfl, h2, T2⟩
    go_wp2
    go_ret
    exact ⟨by rw [HC.out]; rfl, by rw [HC.out]; exact h2, T1.trans T2⟩
  · have hc : x.clearR = (0, x.called) := by unfold Dk.clearR; rw [if_neg (by omega), if_pos hE]
    have HC := Lib.hid hc
    rw [hE]
    clear hc hE h
    go_wp2
    go_ret
    exact ⟨by rw [HC.out]; rfl, by rw [HC.out]; exact h1, T1⟩
  · have hc : x.clearR = (5, x.called) := by unfold Dk.clearR; rw [if_neg (by omega), if_neg (by omega), hE]
    have HC := Lib.hid hc
    rw [hE]
    clear hc hE h
    go_wp2
    go_ret
    exact ⟨by rw [HC.out]; rfl, by rw [HC.out]; exact h1, T1⟩
set_option maxHeartbeats 800000 in
theorem clo0_any (b d m : Nat) (x : Dk) (s : ByteArray) (w : World) (h : IsDisk w d m x) (hc : w.cell? ⟨b, 0, none⟩ = some (.pointer (some ⟨d, 0, none⟩))) :
    Calls Try.prog 30 #[.pointer (some ⟨b, 0, none⟩)] w fun e w' => e = .returned (.int .i64 (x.stepR s 0).1) ∧ IsDisk w' d m (x.stepR s 0).2 ∧ Turn d m w w' := by
  go_enter Try.func30, Try.ntmps30
  go_wp2_with fail
  refine (clear_any d m x _ h).mono ?_
  rintro e w1 ⟨rfl, h1, T1⟩
  go_wp2
  go_ret
  exact ⟨rfl, h1, T1⟩
set_option maxHeartbeats 800000 in
theorem clo1_any (b d m : Nat) (x : Dk) (s : ByteArray) (w : World) (h : IsDisk w d m x) (hc : w.cell? ⟨b, 0, none⟩ = some (.pointer (some ⟨d, 0, none⟩))) :
    Calls Try.prog 32 #[.pointer (some ⟨b, 0, none⟩)] w fun e w' => e = .returned (.int .i64 (x.stepR s 1).1) ∧ IsDisk w' d m (x.stepR s 1).2 ∧ Turn d m w w' := by
  go_enter Try.func32, Try.ntmps32
  go_wp2_with fail
  refine (create_any d m x nW _ h nW_size nW_name).mono ?_
  rintro e w1 ⟨rfl, h1, T1⟩
  go_wp2
  go_ret
  exact ⟨rfl, h1, T1⟩
set_option maxHeartbeats 800000 in
theorem clo2_any (b b2 d m : Nat) (x : Dk) (s : ByteArray) (w : World) (h : IsDisk w d m x) (hc : w.cell? ⟨b, 0, none⟩ = some (.pointer (some ⟨d, 0, none⟩))) (hc2 : w.cell? ⟨b2, 0, none⟩ = some (.string s)) :
    Calls Try.prog 34 #[.pointer (some ⟨b, 0, none⟩), .pointer (some ⟨b2, 0, none⟩)] w fun e w' => e = .returned (.int .i64 (x.stepR s 2).1) ∧ IsDisk w' d m (x.stepR s 2).2 ∧ Turn d m w w' := by
  go_enter Try.func34, Try.ntmps34
  go_wp2_with fail
  refine (append_any d m x nW s _ h nW_size nW_name).mono ?_
  rintro e w1 ⟨rfl, h1, T1⟩
  go_wp2
  go_ret
  exact ⟨rfl, h1, T1⟩
set_option maxHeartbeats 800000 in
theorem clo3_any (b d m : Nat) (x : Dk) (s : ByteArray) (w : World) (h : IsDisk w d m x) (hc : w.cell? ⟨b, 0, none⟩ = some (.pointer (some ⟨d, 0, none⟩))) :
    Calls Try.prog 36 #[.pointer (some ⟨b, 0, none⟩)] w fun e w' => e = .returned (.int .i64 (x.stepR s 3).1) ∧ IsDisk w' d m (x.stepR s 3).2 ∧ Turn d m w w' := by
  go_enter Try.func36, Try.ntmps36
  go_wp2_with fail
  refine (sync_any d m x nW _ h nW_size nW_name).mono ?_
  rintro e w1 ⟨rfl, h1, T1⟩
  go_wp2
  go_ret
  exact ⟨rfl, h1, T1⟩
set_option maxHeartbeats 800000 in
theorem clo4_any (b d m : Nat) (x : Dk) (s : ByteArray) (w : World) (h : IsDisk w d m x) (hc : w.cell? ⟨b, 0, none⟩ = some (.pointer (some ⟨d, 0, none⟩))) :
    Calls Try.prog 38 #[.pointer (some ⟨b, 0, none⟩)] w fun e w' => e = .returned (.int .i64 (x.stepR s 4).1) ∧ IsDisk w' d m (x.stepR s 4).2 ∧ Turn d m w w' := by
  go_enter Try.func38, Try.ntmps38
  go_wp2_with fail
  refine (rename_any d m x nW nN _ h nW_size nW_name nN_size nN_name nW_ne).mono ?_
  rintro e w1 ⟨rfl, h1, T1⟩
  go_wp2
  go_ret
  exact ⟨rfl, h1, T1⟩
end Go.Proofs.Ytdmmfeglnmkmdaa
