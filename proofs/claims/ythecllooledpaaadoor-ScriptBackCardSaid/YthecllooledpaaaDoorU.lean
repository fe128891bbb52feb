/- script.number: the number of digits as they are written; another text of digits ends in the panic that Parse catches. -/
import Derived.Test.YthecllooledpaaaDoorN3
import Derived.Test.YthecllooledpaaaDoorQ
namespace Go.Proofs.YthecllooledpaaaDoor
open Go.RowKit Plain

def wrongP : List PanicEntry := [{ v := .iface 66 (.agg #[]), recovered := false }]
/-- A number, or the panic. -/
def NumPost (ok : Bool) (n : Int) (w : World) (e : Ending) (w' : World) : Prop := (if ok = true then e = .returned (.int .i64 n) else e = .panicked wrongP) ∧ Below w.heap.size w w'

set_option maxHeartbeats 4000000 in
set_option maxRecDepth 100000 in
theorem number_pos (ds : List UInt8) (hd : ∀ d ∈ ds, digitB d) (hne : ds ≠ []) (hlen : ds.length ≤ 19) (hpre : ∀ k, k < ds.length → valD (ds.take k) ≤ 461168601842738790) (ok : Bool) (w : World) (hf : Fit w)
    (hfar : far (valD ds) = false) (hok : (Lib.itoa (valD ds) == ds) = ok) : Calls Tryd.prog 30 #[.string ⟨ds.toArray⟩] w (NumPost ok (valD ds) w) := by
  have kb := fun W => Lib.run_convert_string_bytes (P := Tryd.prog) W 9 44 5 ⟨ds.toArray⟩ Tryd.underlying9 Tryd.underlying44 Tryd.underlying5
  have htrim : Lib.trimPrefix ds [45] = ds := by
    unfold Lib.trimPrefix Lib.hasPrefix
    cases ds with
    | nil => rfl
    | cons d r =>
      have h1 := (hd d List.mem_cons_self).1
      have : (45 == d) = false := by
        rw [beq_eq_false_iff_ne]
        intro e
        rw [← e] at h1
        simp at h1
      simp [List.isPrefixOf, this]
  have hc := Lib.bytesWorld_cell w 5 ⟨ds.toArray⟩
  have hb := bytes_below w 5 ⟨ds.toArray⟩
  have hsz : (⟨ds.toArray⟩ : ByteArray).size = ds.length := rfl
  have htl : (⟨ds.toArray⟩ : ByteArray).toList = ds := by rw [ByteArray.toList_eq]
  rw [hsz] at hc
  have HT := Lib.hid htrim
  have HF := Lib.hid hfar
  have HK := Lib.hid hok
  have HP := Lib.hid hpre
  clear htrim hfar hok hpre
  go_enter Tryd.func30, Tryd.ntmps30
  go_wp2_with fail
  rw [show (!ds.isEmpty && decide ((ds.length : Int) < 21)) = true by cases ds <;> simp_all; omega]
  refine (must_so _).mono ?_
  rintro e w' ⟨rfl, rfl⟩
  go_wp2_with fail
  refine (Tryd.strings_TrimPrefix _ _ _).mono ?_
  rintro e w' ⟨rfl, rfl⟩
  rw [HT.out]
  go_wp2_with fail
  clear hsz htl
  generalize Lib.bytesWorld w' 5 ⟨ds.toArray⟩ = W at *
  clear kb hne
  go_loopw [3, 20] (fun n i wr => ∃ k : Nat, k ≤ ds.length ∧ i = .int .i64 k ∧ n = .int .i64 (valD (ds.take k)) ∧ wr = W) (fun _ i _ => ds.length - (intOf i).toNat)
  case atStart => exact ⟨0, Nat.zero_le _, rfl, rfl, rfl⟩
  case round =>
    obtain ⟨k, hk, rfl, rfl, rfl⟩ := hrel
    by_cases hlt : k < ds.length
    · have hcell := hc k hlt
      have hdk : digitB (ds.getD k 0) := by rw [List.getD, List.getElem?_eq_getElem hlt]; exact hd _ (List.getElem_mem hlt)
      have hp := HP.out k hlt
      have hg := valD_ge (ds.take k) (fun d h => hd d (List.mem_of_mem_take h))
      have hsn : Hid (valD (ds.take (k + 1)) = 10 * valD (ds.take k) + (((ds.getD k 0).toNat : Int) - 48)) := by
        unfold Hid
        rw [List.take_succ_eq_append_getElem hlt, valD_snoc]
        simp [List.getD, List.getElem?_eq_getElem hlt]
      generalize valD (ds.take k) = x at *
      generalize ds.getD k 0 = d at *
      have d0 : 48 ≤ (d.toNat : Int) := by have := hdk.1; omega
      have d1 : (d.toNat : Int) ≤ 57 := by have := hdk.2; omega
      clear hc
      go_wp2_with fail
      refine (must_so _).mono ?_
      rintro e w2 ⟨rfl, rfl⟩
      go_wp2
      go_roundw
      case rel => exact ⟨k + 1, by omega, by go_num, by rw [hsn.out], trivial⟩
      case measure => simp [intOf]; omega
    · have : k = ds.length := by omega
      subst this
      rw [List.take_length]
      have hfn := HF.out
      have hv0 : -4611686018427387904 ≤ valD ds := by unfold far at hfn; simp at hfn; omega
      have hv1 : valD ds ≤ 4611686018427387904 := by unfold far at hfn; simp at hfn; omega
      have hmay : Hid (mayB [valD ds] = true) := by unfold Hid mayB; simp [hfn]
      clear hfn
      have hok := HK.out
      have hf1 := hf.below hb
      have hone := ints_one wr (valD ds)
      have hb1 := hb.alloc hb.size (.cells #[.int .i64 (valD ds)] 3)
      generalize hx : valD ds = x at *
      clear hx HF HK HP hd hk hlt hlen HT hc
      go_wp2_with fail
      refine (may_any _ _ _ hone).mono ?_
      rintro e w2 ⟨rfl, rfl⟩
      rw [hmay.out]
      go_wp2_with fail
      refine (itoa_any x (by omega) (by omega) _ (hf1.below ((Below.refl _ _).alloc (Nat.le_refl _) _))).mono ?_
      rintro e w2 ⟨rfl, hb2⟩
      have hbw := keepBelow hb1 hb2
      go_wp2_with fail
      clear hok
      cases ok
      · refine (must_not _).mono ?_
        rintro e w3 ⟨rfl, rfl⟩
        go_wp2
        exact ⟨rfl, by rw [if_neg (by simp)]; rfl, hbw⟩
      · refine (must_so _).mono ?_
        rintro e w3 ⟨rfl, rfl⟩
        go_wp2
        go_ret
        exact ⟨by rw [if_pos rfl]; rfl, hbw⟩
set_option maxHeartbeats 4000000 in
set_option maxRecDepth 100000 in
theorem number_neg (ds : List UInt8) (hd : ∀ d ∈ ds, digitB d) (_hne : ds ≠ []) (hlen : ds.length ≤ 19) (hpre : ∀ k, k < ds.length → valD (ds.take k) ≤ 461168601842738790) (ok : Bool) (w : World) (hf : Fit w)
    (hfar : far (-valD ds) = false) (hok : (Lib.itoa (-valD ds) == 45 :: ds) = ok) : Calls Tryd.prog 30 #[.string ⟨(45 :: ds).toArray⟩] w (NumPost ok (-valD ds) w) := by
  have kb := fun W => Lib.run_convert_string_bytes (P := Tryd.prog) W 9 44 5 ⟨ds.toArray⟩ Tryd.underlying9 Tryd.underlying44 Tryd.underlying5
  have htrim : Lib.trimPrefix (45 :: ds) [45] = ds := by simp [Lib.trimPrefix, Lib.hasPrefix, List.isPrefixOf]
  have hnq : (ds == 45 :: ds) = false := by rw [beq_eq_false_iff_ne]; intro e; have := congrArg List.length e; simp at this
  have hc := Lib.bytesWorld_cell w 5 ⟨ds.toArray⟩
  have hb := bytes_below w 5 ⟨ds.toArray⟩
  have hsz : (⟨ds.toArray⟩ : ByteArray).size = ds.length := rfl
  have htl : (⟨ds.toArray⟩ : ByteArray).toList = ds := by rw [ByteArray.toList_eq]
  rw [hsz] at hc
  have HT := Lib.hid htrim
  have HF := Lib.hid hfar
  have HK := Lib.hid hok
  have HP := Lib.hid hpre
  clear htrim hfar hok hpre
  go_enter Tryd.func30, Tryd.ntmps30
  go_wp2_with fail
  rw [decide_eq_true (show (ds.length : Int) + 1 < 21 by omega)]
  refine (must_so _).mono ?_
  rintro e w' ⟨rfl, rfl⟩
  go_wp2_with fail
  refine (Tryd.strings_TrimPrefix _ _ _).mono ?_
  rintro e w' ⟨rfl, rfl⟩
  rw [HT.out]
  go_wp2_with fail
  clear hsz htl
  generalize Lib.bytesWorld w' 5 ⟨ds.toArray⟩ = W at *
  clear kb _hne
  go_loopw [3, 20] (fun n i wr => ∃ k : Nat, k ≤ ds.length ∧ i = .int .i64 k ∧ n = .int .i64 (valD (ds.take k)) ∧ wr = W) (fun _ i _ => ds.length - (intOf i).toNat)
  case atStart => exact ⟨0, Nat.zero_le _, rfl, rfl, rfl⟩
  case round =>
    obtain ⟨k, hk, rfl, rfl, rfl⟩ := hrel
    by_cases hlt : k < ds.length
    · have hcell := hc k hlt
      have hdk : digitB (ds.getD k 0) := by rw [List.getD, List.getElem?_eq_getElem hlt]; exact hd _ (List.getElem_mem hlt)
      have hp := HP.out k hlt
      have hg := valD_ge (ds.take k) (fun d h => hd d (List.mem_of_mem_take h))
      have hsn : Hid (valD (ds.take (k + 1)) = 10 * valD (ds.take k) + (((ds.getD k 0).toNat : Int) - 48)) := by
        unfold Hid
        rw [List.take_succ_eq_append_getElem hlt, valD_snoc]
        simp [List.getD, List.getElem?_eq_getElem hlt]
      generalize valD (ds.take k) = x at *
      generalize ds.getD k 0 = d at *
      have d0 : 48 ≤ (d.toNat : Int) := by have := hdk.1; omega
      have d1 : (d.toNat : Int) ≤ 57 := by have := hdk.2; omega
      clear hc
      go_wp2_with fail
      refine (must_so _).mono ?_
      rintro e w2 ⟨rfl, rfl⟩
      go_wp2
      go_roundw
      case rel => exact ⟨k + 1, by omega, by go_num, by rw [hsn.out], trivial⟩
      case measure => simp [intOf]; omega
    · have : k = ds.length := by omega
      subst this
      rw [List.take_length]
      have hfn := HF.out
      have hv0 : -4611686018427387904 ≤ valD ds := by unfold far at hfn; simp at hfn; omega
      have hv1 : valD ds ≤ 4611686018427387904 := by unfold far at hfn; simp at hfn; omega
      have hmay : Hid (mayB [-valD ds] = true) := by unfold Hid mayB; simp [hfn]
      clear hfn
      have hok := HK.out
      have hf1 := hf.below hb
      have hone := ints_one wr (-valD ds)
      have hb1 := hb.alloc hb.size (.cells #[.int .i64 (-valD ds)] 3)
      generalize hx : valD ds = x at *
      clear hx HF HK HP hd hk hlt hlen HT hc
      go_wp2_with fail
      refine (may_any _ _ _ hone).mono ?_
      rintro e w2 ⟨rfl, rfl⟩
      rw [hmay.out]
      go_wp2_with fail
      refine (itoa_any (-x) (by omega) (by omega) _ (hf1.below ((Below.refl _ _).alloc (Nat.le_refl _) _))).mono ?_
      rintro e w2 ⟨rfl, hb2⟩
      have hbw := keepBelow hb1 hb2
      go_wp2_with fail
      clear hok
      cases ok
      · refine (must_not _).mono ?_
        rintro e w3 ⟨rfl, rfl⟩
        go_wp2
        exact ⟨rfl, by rw [if_neg (by simp)]; rfl, hbw⟩
      · refine (must_so _).mono ?_
        rintro e w3 ⟨rfl, rfl⟩
        go_wp2
        go_ret
        exact ⟨by rw [if_pos rfl]; rfl, hbw⟩
end Go.Proofs.YthecllooledpaaaDoor
