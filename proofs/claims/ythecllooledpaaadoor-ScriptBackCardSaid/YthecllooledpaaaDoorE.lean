/- chainmanref41.Same of two slices that hold the same acts: true. -/
import Derived.Test.YthecllooledpaaaDoorG
namespace Go.Proofs.YthecllooledpaaaDoor
open Go.RowKit

set_option maxHeartbeats 8000000 in
set_option maxRecDepth 100000 in
theorem same_any (v v' : Value) (l : List Act) (w : World) (hl : Acts w v l) (hl' : Acts w v' l) : Calls Tryd.prog 9 #[v, v'] w fun e w' => e = .returned (.bool true) ∧ Below w.heap.size w w' := by
  obtain ⟨A, c, rfl, h1, h2, h3⟩ := id hl
  obtain ⟨A', c', rfl, h1', h2', h3'⟩ := id hl'
  unfold maxLen at h2 h2'
  clear h3 h3'
  have hl63 : l.length ≤ 9223372036854775807 := by omega
  go_enter Tryd.func9, Tryd.ntmps9
  go_wp2
  go_loopw [5] (fun i wr => ∃ k : Nat, k ≤ l.length ∧ i = .int .i64 k ∧ Below w.heap.size w wr) (fun i _ => l.length - (intOf i).toNat)
  case atStart => exact ⟨0, Nat.zero_le _, rfl, Below.refl _ _⟩
  case round =>
    obtain ⟨k, hk, rfl, hbr⟩ := hrel
    by_cases hlt : k < l.length
    · obtain ⟨_, ad, A6, cc, rfl, hu, a0, a1, a2, a3, a4, a5⟩ := (hl.below hbr).at_ k hlt
      obtain ⟨_, bd, B6, bc, rfl, hu', b0, b1, b2, b3, b4, b5⟩ := (hl'.below hbr).at_ k hlt
      generalize l[k] = a at *
      have hk0 : (0 : Int) ≤ (k : Int) := Int.natCast_nonneg _
      have hk1 : (k : Int) < (l.length : Int) := by omega
      have n0 := World.new_ne wr _ a0
      have n1 := World.new_ne wr _ a1
      have n2 := World.new_ne wr _ a2
      have n3 := World.new_ne wr _ a3
      have n4 := World.new_ne wr _ a4
      have n5 := World.new_ne wr _ a5
      have m0 := World.new_ne wr _ b0
      have m1 := World.new_ne wr _ b1
      have m2 := World.new_ne wr _ b2
      have m3 := World.new_ne wr _ b3
      have m4 := World.new_ne wr _ b4
      have m5 := World.new_ne wr _ b5
      go_wp2_with fail
      go_region_held3 (fun w' => (w'.cell? (ad.add (k * 6)) = some (.int .i64 a.kind) ∧ w'.cell? ⟨(ad.add (k * 6)).block, (ad.add (k * 6)).off + 1, none⟩ = some (.string a.name) ∧
        w'.cell? ⟨(ad.add (k * 6)).block, (ad.add (k * 6)).off + 2, none⟩ = some (.string a.s) ∧ w'.cell? ⟨(ad.add (k * 6)).block, (ad.add (k * 6)).off + 3, none⟩ = some (.int .i64 a.n) ∧
        w'.cell? ⟨(ad.add (k * 6)).block, (ad.add (k * 6)).off + 4, none⟩ = some (.int .u32 a.bits) ∧ w'.cell? ⟨(ad.add (k * 6)).block, (ad.add (k * 6)).off + 5, none⟩ = some (.slice A6 a.keep.length cc) ∧
        w'.cell? (bd.add (k * 6)) = some (.int .i64 a.kind) ∧ w'.cell? ⟨(bd.add (k * 6)).block, (bd.add (k * 6)).off + 1, none⟩ = some (.string a.name) ∧
        w'.cell? ⟨(bd.add (k * 6)).block, (bd.add (k * 6)).off + 2, none⟩ = some (.string a.s) ∧ w'.cell? ⟨(bd.add (k * 6)).block, (bd.add (k * 6)).off + 3, none⟩ = some (.int .i64 a.n) ∧
        w'.cell? ⟨(bd.add (k * 6)).block, (bd.add (k * 6)).off + 4, none⟩ = some (.int .u32 a.bits) ∧ w'.cell? ⟨(bd.add (k * 6)).block, (bd.add (k * 6)).off + 5, none⟩ = some (.slice B6 a.keep.length bc)))
        (go_keep) (fail)
      · clear n0 n1 n2 n3 n4 n5 m0 m1 m2 m3 m4 m5 a0 a1 a2 a3 a4 a5 b0 b1 b2 b3 b4 b5
        go_wp2_with fail
        obtain ⟨wo, hwo⟩ : ∃ wo : World, wo = wr := ⟨_, rfl⟩
        rw [← hwo] at hu hu' hbr ⊢
        clear hwo
        go_loopw [8] (fun i w2 => ∃ j : Nat, j ≤ a.keep.length ∧ i = .int .i64 j ∧ w2.cell? ⟨wo.heap.size, 5, none⟩ = some (.slice A6 a.keep.length cc) ∧ w2.cell? ⟨wo.heap.size + 1, 5, none⟩ = some (.slice B6 a.keep.length bc) ∧ Below wo.heap.size wo w2) (fun i _ => a.keep.length - (intOf i).toNat)
        case atStart => exact ⟨0, Nat.zero_le _, rfl, by simp, by simp, (((Below.refl _ _).alloc (Nat.le_refl _) _).alloc (by simp) _).drew⟩
        case round =>
          rename_i w2 _
          obtain ⟨j, hj, rfl, x5, y5, hb2⟩ := hrel
          by_cases hjl : j < a.keep.length
          · obtain ⟨A7, c7, hv7, k7, kk7, hc7⟩ := hu.below hb2
            obtain ⟨A8, c8, hv8, k8, kk8, hc8⟩ := hu'.below hb2
            injection hv7 with q1 q2 q3
            injection hv8 with p1 p2 p3
            subst q1 q3 p1 p3
            clear q2 p2
            obtain ⟨xd, rfl, xc⟩ := hc7 j hjl
            obtain ⟨yd, rfl, yc⟩ := hc8 j hjl
            generalize a.keep.getD j 0 = x at *
            unfold maxLen at kk7 kk8
            have hj0 : (0 : Int) ≤ (j : Int) := Int.natCast_nonneg _
            have hj1 : (j : Int) < (a.keep.length : Int) := by omega
            clear hc7 hc8
            go_wp2_with fail
            go_quiet (fail)
            go_wp2
            go_roundw
            case rel => exact ⟨j + 1, by omega, by go_num, x5, y5, below_drewN hb2 _⟩
            case measure => simp [intOf]; omega
          · have hj2 : j = a.keep.length := by omega
            subst hj2
            clear hjl
            have hb3 := keepBelow hbr hb2
            go_wp2
            go_roundw
            case rel => exact ⟨k + 1, by omega, by go_num, hb3⟩
            case measure => simp [intOf]; omega
      · clear n0 n1 n2 n3 n4 n5 m0 m1 m2 m3 m4 m5 a0 a1 a2 a3 a4 a5 b0 b1 b2 b3 b4 b5
        go_wp2_with fail
        obtain ⟨wo, hwo⟩ : ∃ wo : World, wo = wr := ⟨_, rfl⟩
        rw [← hwo] at hu hu' hbr ⊢
        clear hwo
        go_loopw [8] (fun i w2 => ∃ j : Nat, j ≤ a.keep.length ∧ i = .int .i64 j ∧ w2.cell? ⟨wo.heap.size + 1, 5, none⟩ = some (.slice A6 a.keep.length cc) ∧ w2.cell? ⟨wo.heap.size, 5, none⟩ = some (.slice B6 a.keep.length bc) ∧ Below wo.heap.size wo w2) (fun i _ => a.keep.length - (intOf i).toNat)
        case atStart => exact ⟨0, Nat.zero_le _, rfl, by simp, by simp, (((Below.refl _ _).alloc (Nat.le_refl _) _).alloc (by simp) _).drew⟩
        case round =>
          rename_i w2 _
          obtain ⟨j, hj, rfl, x5, y5, hb2⟩ := hrel
          by_cases hjl : j < a.keep.length
          · obtain ⟨A7, c7, hv7, k7, kk7, hc7⟩ := hu.below hb2
            obtain ⟨A8, c8, hv8, k8, kk8, hc8⟩ := hu'.below hb2
            injection hv7 with q1 q2 q3
            injection hv8 with p1 p2 p3
            subst q1 q3 p1 p3
            clear q2 p2
            obtain ⟨xd, rfl, xc⟩ := hc7 j hjl
            obtain ⟨yd, rfl, yc⟩ := hc8 j hjl
            generalize a.keep.getD j 0 = x at *
            unfold maxLen at kk7 kk8
            have hj0 : (0 : Int) ≤ (j : Int) := Int.natCast_nonneg _
            have hj1 : (j : Int) < (a.keep.length : Int) := by omega
            clear hc7 hc8
            go_wp2_with fail
            go_quiet (fail)
            go_wp2
            go_roundw
            case rel => exact ⟨j + 1, by omega, by go_num, x5, y5, below_drewN hb2 _⟩
            case measure => simp [intOf]; omega
          · have hj2 : j = a.keep.length := by omega
            subst hj2
            clear hjl
            have hb3 := keepBelow hbr hb2
            go_wp2
            go_roundw
            case rel => exact ⟨k + 1, by omega, by go_num, hb3⟩
            case measure => simp [intOf]; omega
    · have : k = l.length := by omega
      subst this
      go_wp2
      go_ret
      exact ⟨rfl, hbr⟩
end Go.Proofs.YthecllooledpaaaDoor
