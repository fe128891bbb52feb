/- octet: Put and Get compute the plain words. -/
import Derived.Test.YtdmmfeglnmkmdaaC1
namespace Go.Proofs.Ytdmmfeglnmkmdaa
open Go.RowKit Plain

theorem arr_high {P : Program} {t e : TypeId} {L : Nat} (ht : P.underlying t = some (.array L e)) (hs : ∀ W, (sizeOf e).run P W = .ok 1 W) (B h : Nat) (h1 : h ≤ L) (W : World) :
    (Instr.sliceAt t (.pointer (some ⟨B, 0, none⟩)) none (some (.int .i64 (h : Int))) none).run P W = .ok (.slice (some ⟨B, 0, none⟩) h L) W := by
  have e1 : P.arrayLen t = L := by simp [Program.arrayLen, ht]
  have e2 : P.elem t = e := by simp [Program.elem, ht]
  have ht' : P.underlying t = some (.array (P.arrayLen t) (P.elem t)) := by rw [e1, e2]; exact ht
  rw [run_sliceAt_array_h W t ⟨B, 0, none⟩ ht' .i64 (h : Int) (by omega) (by rw [e1]; omega), e1, e2, hs]
  simp [slicedAt, Addr.add]
theorem arr_low {P : Program} {t e : TypeId} {L : Nat} (ht : P.underlying t = some (.array L e)) (hs : ∀ W, (sizeOf e).run P W = .ok 1 W) (B l : Nat) (h1 : l < L) (W : World) :
    (Instr.sliceAt t (.pointer (some ⟨B, 0, none⟩)) (some (.int .i64 (l : Int))) none none).run P W = .ok (.slice (some ⟨B, l, none⟩) (L - l) (L - l)) W := by
  have e1 : P.arrayLen t = L := by simp [Program.arrayLen, ht]
  have e2 : P.elem t = e := by simp [Program.elem, ht]
  have ht' : P.underlying t = some (.array (P.arrayLen t) (P.elem t)) := by rw [e1, e2]; exact ht
  rw [run_sliceAt_array_l W t ⟨B, 0, none⟩ ht' .i64 (l : Int) (by omega) (by rw [e1]; omega), e1, e2, hs]
  have e3 : (l : Int).toNat = l := by simp
  simp only [Result.andThen, slicedAt, e3, Nat.mul_one]
  rw [if_neg (by omega), add_plain]
theorem beL_get : ∀ (k n j : Nat) (_ : j < k), (beL k n)[j]? = some (UInt8.ofNat (n / 256 ^ (k - 1 - j) % 256))
  | 0, _, _, h => by omega
  | k + 1, n, j, h => by
    show (beL k (n / 256) ++ [UInt8.ofNat (n % 256)])[j]? = _
    by_cases hj : j < k
    · rw [List.getElem?_append_left (by rw [beL_length]; exact hj), beL_get k (n / 256) j hj, Nat.div_div_eq_div_mul]
      rw [show k + 1 - 1 - j = (k - 1 - j) + 1 by omega, Nat.pow_succ, Nat.mul_comm]
    · obtain rfl : j = k := by omega
      rw [List.getElem?_append_right (by rw [beL_length]; omega), beL_length]
      simp
def oc (n j p : Nat) : Value := if j ≤ p then .int .u8 ((n / 256 ^ (7 - p) % 256 : Nat) : Int) else .int .u8 0
def ocCells (n j : Nat) : Array Value := #[oc n j 0, oc n j 1, oc n j 2, oc n j 3, oc n j 4, oc n j 5, oc n j 6, oc n j 7]
theorem ocCells_get (n j p : Nat) (hp : p < 8) : (ocCells n j)[p]? = some (oc n j p) := by
  have hc : p = 0 ∨ p = 1 ∨ p = 2 ∨ p = 3 ∨ p = 4 ∨ p = 5 ∨ p = 6 ∨ p = 7 := by omega
  rcases hc with rfl | rfl | rfl | rfl | rfl | rfl | rfl | rfl <;> rfl
theorem ocCells_set (n j : Nat) (hj : j < 8) (v : Value) (hv : v = .int .u8 ((n / 256 ^ (7 - j) % 256 : Nat) : Int)) (W : World) (B : Nat) (t : TypeId) (h : W.heap[B]? = some (.cells (ocCells n (j + 1)) t (0, 0))) :
    (W.setCell ⟨B, j, none⟩ v).heap[B]? = some (.cells (ocCells n j) t (0, 0)) := by
  have e : (W.setCell ⟨B, j, none⟩ v).heap[B]? = some (.cells ((ocCells n (j + 1)).set! j v) t (0, 0)) := by
    simp [World.setCell, Array.getElem?_modify, h]
  rw [e, hv]
  have hc : j = 0 ∨ j = 1 ∨ j = 2 ∨ j = 3 ∨ j = 4 ∨ j = 5 ∨ j = 6 ∨ j = 7 := by omega
  rcases hc with rfl | rfl | rfl | rfl | rfl | rfl | rfl | rfl <;> simp [ocCells, oc]
def oputV (n k : Nat) : Value := match putN n k with
  | some t => .tuple #[.string ⟨t.toArray⟩, .bool true]
  | none => .tuple #[.string ⟨#[]⟩, .bool false]
set_option maxHeartbeats 1600000 in
set_option maxRecDepth 100000 in
/-- octet.Put of a number and a width that may be. -/
theorem oput_any (n k : Nat) (w : World) (hk1 : 1 ≤ k) (hk8 : k ≤ 8) (hn : n ≤ 9223372036854775807) : Calls Try.prog 82 #[.int .i64 n, .int .i64 k] w fun e w' => e = .returned (oputV n k) ∧ Below w.heap.size w w' := by
  go_enter Try.func82, Try.ntmps82
  go_wp2_with fail
  have hnew : (w.alloc (.cells (ocCells n 8) 141)).heap[w.heap.size]? = some (.cells (ocCells n 8) 141 (0, 0)) := heap_alloc_new w _
  go_loopw [0, 7] (fun x i wr => ∃ j : Nat, j ≤ 8 ∧ x = .int .i64 ((n / 256 ^ (8 - j) : Nat) : Int) ∧ i = .int .i64 ((j : Int) - 1) ∧ wr.heap[w.heap.size]? = some (.cells (ocCells n j) 141 (0, 0)) ∧ Below w.heap.size w wr) (fun _ i _ => (intOf i + 1).toNat)
  case atStart => exact ⟨8, by omega, by simp, rfl, hnew, (Below.refl _ w).alloc (Nat.le_refl _) _⟩
  case round =>
    rename_i wr _
    clear hnew
    obtain ⟨j, hj, rfl, rfl, hbk, hbr⟩ := hrel
    have hH := Lib.hid hbk
    cases j with
    | succ i =>
      have hi : i < 8 := by omega
      have e1 : (((i + 1 : Nat) : Int) - 1) = (i : Int) := by omega
      have hx : n / 256 ^ (8 - (i + 1)) ≤ 9223372036854775807 := Nat.le_trans (Nat.div_le_self _ _) hn
      have hv : Hid (n / 256 ^ (8 - (i + 1)) / 256 = n / 256 ^ (8 - i)) := by
        unfold Hid
        rw [Nat.div_div_eq_div_mul, ← Nat.pow_succ, show (8 - (i + 1)).succ = 8 - i by omega]
      have hy : Hid (n / 256 ^ (8 - (i + 1)) = n / 256 ^ (7 - i)) := by
        unfold Hid
        rw [show 8 - (i + 1) = 7 - i by omega]
      rw [e1]
      generalize n / 256 ^ (8 - (i + 1)) = x at *
      have z : wr.frozen? ⟨w.heap.size, i, none⟩ = false := Lib.frozen_of_heap hbk i
      have c : wr.cell? ⟨w.heap.size, i, none⟩ = some (oc n (i + 1) i) := (Lib.cell_of_heap hbk i).trans (ocCells_get n _ i hi)
      clear hbk e1
      go_wp2_with fail
      go_roundw
      case rel => exact ⟨i, by omega, by rw [← hv.out]; rfl, rfl, ocCells_set n i hi _ (by rw [← hy.out]; go_num) _ _ _ hH.out, hbr.setCell (Nat.le_refl _) _⟩
      case measure => simp [intOf]
    | zero =>
      have hd : (8 : Int) - (k : Int) = ((8 - k : Nat) : Int) := by omega
      have hd8 : 8 - k + k = 8 := by omega
      generalize 8 - k = d at *
      have cells : ∀ p, p < 8 → wr.cell? ⟨w.heap.size, p, none⟩ = some (.int .u8 ((n / 256 ^ (7 - p) % 256 : Nat) : Int)) := fun p hp => (Lib.cell_of_heap hbk p).trans ((ocCells_get n _ p hp).trans (by simp [oc]))
      have hsl1 := arr_high Try.underlying141 Try.sizeOf5 w.heap.size d (by omega) wr
      have hsl2 := arr_low Try.underlying141 Try.sizeOf5 w.heap.size d (by omega) wr
      have hl8 : 8 - d = k := by omega
      rw [hl8] at hsl2
      have hcv : (convert 97 9 (.slice (some ⟨w.heap.size, d, none⟩) k k)).run Try.prog wr = .ok (.string ⟨(beL k n).toArray⟩) wr := by
        have := run_convert_bytes_back wr 97 9 5 ⟨w.heap.size, d, none⟩ k (beL k n) Try.underlying97 Try.underlying5 Try.underlying9 (fun j hj => by
          rw [beL_length] at hj
          have e := beL_get k n j hj
          have e2 : (beL k n)[j]'(by rw [beL_length]; exact hj) = UInt8.ofNat (n / 256 ^ (k - 1 - j) % 256) := by
            rw [List.getElem?_eq_getElem (by rw [beL_length]; exact hj)] at e
            exact Option.some.inj e
          rw [e2, show (⟨w.heap.size, d, none⟩ : Addr).add j = ⟨w.heap.size, d + j, none⟩ by unfold Addr.add; split <;> simp_all, cells (d + j) (by omega), show 7 - (d + j) = k - 1 - j by omega]
          simp)
        rwa [beL_length] at this
      have HC := Lib.hid cells
      have HV := Lib.hid hcv
      have HS2 := Lib.hid hsl2
      have h0 : Hid (n < 256 ^ (8 - 0)) := by unfold Hid; omega
      clear hbk cells hcv hsl2 hl8
      go_wp2_with fail
      clear hsl1
      go_loop [34] (fun i => ∃ p : Nat, p ≤ d ∧ i = .int .i64 p ∧ Hid (n < 256 ^ (8 - p))) (fun i => d - (intOf i).toNat)
      case atStart => exact ⟨0, Nat.zero_le _, rfl, h0⟩
      case round =>
        obtain ⟨p, hp, rfl, hlt⟩ := hrel
        by_cases hpd : p < d
        · have hc := HC.out p (by omega)
          have hstep : n / 256 ^ (7 - p) % 256 = 0 → n < 256 ^ (8 - (p + 1)) := by
            intro hz
            have h1 : n / 256 ^ (7 - p) < 256 := by
              rw [Nat.div_lt_iff_lt_mul (Nat.pow_pos (by decide)), Nat.mul_comm, ← Nat.pow_succ, show (7 - p).succ = 8 - p by omega]
              exact hlt.out
            rw [Nat.mod_eq_of_lt h1] at hz
            have h2 := (Nat.div_eq_zero_iff).1 hz
            rcases h2 with h2 | h2
            · exact absurd h2 (Nat.ne_of_gt (Nat.pow_pos (by decide)))
            · rwa [show 8 - (p + 1) = 7 - p by omega]
          have hno : ¬ n / 256 ^ (7 - p) % 256 = 0 → oputV n k = .tuple #[.string ⟨#[]⟩, .bool false] := by
            intro hz
            unfold oputV putN
            rw [if_neg]
            intro hlt2
            apply hz
            have h3 : 256 ^ k ≤ 256 ^ (7 - p) := Nat.pow_le_pow_right (by decide) (by omega)
            rw [Nat.div_eq_of_lt (Nat.lt_of_lt_of_le hlt2 h3)]
          have HSt := Lib.hid hstep
          have HNo := Lib.hid hno
          clear hstep hno
          generalize n / 256 ^ (7 - p) % 256 = b at *
          by_cases hb : b = 0
          · subst hb
            have hn2 : Hid (n < 256 ^ (8 - (p + 1))) := HSt.out rfl
            go_wp2_with fail
            go_round
            case rel => exact ⟨p + 1, by omega, by go_num, hn2⟩
            case measure => simp [intOf]; omega
          · have hv := Lib.hid (HNo.out hb)
            have hb2 : 0 < b := by omega
            clear hb
            go_wp2_with fail
            go_ret2
            exact ⟨by rw [hv.out]; rfl, hbr⟩
        · obtain rfl : p = d := by omega
          have hv : Hid (oputV n k = .tuple #[.string ⟨(beL k n).toArray⟩, .bool true]) := by
            unfold Hid oputV putN
            rw [if_pos]
            have := hlt.out
            rwa [show 8 - p = k by omega] at this
          have hsl2 := HS2.out
          have hcv := HV.out
          generalize (⟨(beL k n).toArray⟩ : ByteArray) = q at *
          go_wp2_with fail
          go_ret2
          exact ⟨by rw [hv.out]; rfl, hbr⟩
def ogetV (s : List UInt8) (k : Nat) : Value := .tuple #[.int .i64 ((getN s k).1 : Int), .bool (getN s k).2]
theorem bits_join (x b : Nat) (hx : x * 256 < 18446744073709551616) (hb : b < 256) : bits .or .u64 ((x * 256 : Nat) : Int) (b : Int) = ((x * 256 + b : Nat) : Int) := by
  rw [u64_or_nat _ _ hx (by omega), nat_join 8 (x * 256) b (by omega) (by omega)]
set_option maxHeartbeats 1600000 in
set_option maxRecDepth 100000 in
/-- octet.Get at place 0. -/
theorem oget_any (s : ByteArray) (k : Nat) (w : World) (hk1 : 1 ≤ k) (hk8 : k ≤ 8) (hs : s.size ≤ 1073741824) : Calls Try.prog 97 #[.string s, .int .i64 0, .int .i64 k] w fun e w' => e = .returned (ogetV s.data.toList k) ∧ Below w.heap.size w w' := by
  by_cases hlen : s.size < k
  · have hv : Hid (ogetV s.data.toList k = .tuple #[.int .i64 0, .bool false]) := by
      unfold Hid ogetV getN
      rw [ba_length, if_pos hlen]
      rfl
    go_enter Try.func97, Try.ntmps97
    go_wp2_with fail
    go_ret2
    exact ⟨by rw [hv.out]; rfl, Below.refl _ _⟩
  · have hle : k ≤ s.size := by omega
    clear hlen
    have hul : (s.extract 0 k).data.toList = s.data.toList.take k := by rw [extract_list]; rfl
    have hus : (s.extract 0 k).size = k := by rw [ByteArray.size_extract]; omega
    have hv : Hid (ogetV s.data.toList k = if beV (s.extract 0 k).data.toList < 9223372036854775808 then .tuple #[.int .i64 (beV (s.extract 0 k).data.toList : Int), .bool true] else .tuple #[.int .i64 0, .bool false]) := by
      unfold Hid ogetV getN
      rw [ba_length, if_neg (by omega), hul]
      split <;> rfl
    obtain ⟨u, hu⟩ : ∃ u, s.extract 0 k = u := ⟨_, rfl⟩
    rw [hu] at hus hv
    have kb := fun W => Lib.run_convert_string_bytes (P := Try.prog) W 9 97 5 u Try.underlying9 Try.underlying97 Try.underlying5
    have hc := Lib.bytesWorld_cell w 5 u
    have hb := bytes_below w 5 u
    have HUS := Lib.hid hus
    go_enter Try.func97, Try.ntmps97
    go_wp2_with fail
    generalize Lib.bytesWorld w 5 u = W at *
    clear kb hu hul
    have hul := ba_length u
    rw [HUS.out] at hul
    have HUL := Lib.hid hul
    have HC := Lib.hid hc
    clear hul hc
    go_loop [8, 37] (fun n i => ∃ j : Nat, j ≤ k ∧ i = .int .i64 j ∧ n = .int .u64 (beV (u.data.toList.take j))) (fun _ i => k - (intOf i).toNat)
    case atStart => exact ⟨0, Nat.zero_le _, rfl, rfl⟩
    case round =>
      obtain ⟨j, hj, rfl, rfl⟩ := hrel
      by_cases hlt : j < k
      · have hjs : j < u.size := by rw [HUS.out]; exact hlt
        have hcell := HC.out j hjs
        have hlt' : j < u.data.toList.length := by rw [HUL.out]; exact hlt
        have hbv : beV (u.data.toList.take j) < 72057594037927936 := by
          have h1 := beV_lt (u.data.toList.take j)
          have h2 : 256 ^ (u.data.toList.take j).length ≤ 256 ^ 7 := Nat.pow_le_pow_right (by decide) (by rw [List.length_take]; omega)
          exact Nat.lt_of_lt_of_le h1 h2
        have hsn : Hid (beV (u.data.toList.take (j + 1)) = beV (u.data.toList.take j) * 256 + (u.data.toList.getD j 0).toNat) := by
          unfold Hid
          rw [List.take_succ_eq_append_getElem hlt', beV_snoc]
          simp [List.getD, List.getElem?_eq_getElem hlt']
        clear hlt'
        generalize beV (u.data.toList.take j) = x at *
        generalize u.data.toList.getD j 0 = c at *
        have hcb : c.toNat < 256 := c.toNat_lt
        have e1 := bits_join x c.toNat (by omega) hcb
        generalize c.toNat = b at *
        rw [show ((x * 256 : Nat) : Int) = (x : Int) * 256 by omega] at e1
        go_wp2_with fail
        go_round
        case rel => exact ⟨j + 1, by omega, by go_num, by rw [hsn.out]; go_num⟩
        case measure => simp [intOf]; omega
      · obtain rfl : j = k := by omega
        have e1 : Hid (u.data.toList.take j = u.data.toList) := by
          have := HUL.out
          unfold Hid
          rw [← this, List.take_length]
        rw [e1.out]
        generalize beV u.data.toList = x at *
        by_cases hx : x < 9223372036854775808
        · have hr := hv.out
          rw [if_pos hx] at hr
          have HR := Lib.hid hr
          clear hr hv
          go_wp2_with fail
          go_ret2
          exact ⟨by rw [HR.out]; rfl, hb⟩
        · have hr := hv.out
          rw [if_neg hx] at hr
          have HR := Lib.hid hr
          clear hr hv
          go_wp2_with fail
          go_ret2
          exact ⟨by rw [HR.out]; rfl, hb⟩
end Go.Proofs.Ytdmmfeglnmkmdaa
