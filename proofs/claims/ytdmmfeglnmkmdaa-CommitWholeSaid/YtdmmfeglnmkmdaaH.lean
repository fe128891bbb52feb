/- The disk's calls: Sync, Append, Rename, Read. -/
import Derived.Test.YtdmmfeglnmkmdaaG
namespace Go.Proofs.Ytdmmfeglnmkmdaa
open Go.RowKit Go.Maps

def bytesOf : DataW Unit → List UInt8
  | .agg (.lit (.string s) :: _) => s
  | _ => []
def keptOf : DataW Unit → Int
  | .agg [_, .lit (.int _ k)] => k
  | _ => 0
def Dk.bytes (x : Dk) (s : ByteArray) : List UInt8 := bytesOf (x.at s)
def Dk.kept (x : Dk) (s : ByteArray) : Int := keptOf (x.at s)
theorem find_some {x : Dk} {nm : ByteArray} (h : x.findE nm = 0) : x.hasK nm = true := by
  unfold Dk.findE at h
  split at h
  · cases h
  · split at h
    · assumption
    · cases h
theorem bytes_of {x : Dk} {nm s : ByteArray} {k : Int} (h : x.at nm = fd s.data.toList k) : x.bytes nm = s.data.toList ∧ x.kept nm = k ∧ x.sz nm = s.size := by
  unfold Dk.bytes Dk.kept Dk.sz
  rw [h]
  exact ⟨rfl, rfl, by rw [lenOf_fd, Array.length_toList]; rfl⟩

theorem IsDisk.stored {W w3 : World} {d m n : Nat} {x : Dk} {nm : ByteArray} {s : List UInt8} {k : Int} (h : IsDisk W d m x) (hown : w3.ownsMap Try.prog 9 fileElem m n (x.D.put (keyL nm) (fd s k))) (hg : W.grownBy w3 (some m))
    (hf : x.hasK nm = true) (he : s.length = x.sz nm) : IsDisk w3 d m (x.put nm s k) := by
  refine ⟨h.ne, ?_, tight hown, h.ok.put h.tidy nm s k (.inl hf) (by have := h.ok.fits; omega)⟩
  rw [hg.block d h.ltd (fun e => h.ne (by cases e; rfl)), h.blk]
  have e1 := total_put_eq (x := x) h.tidy nm s k
  have e2 : total (x.put nm s k).D = total x.D := by omega
  simp only [Dk.put] at e2
  simp [dkCells, e2, Dk.put]

def Dk.synced (x : Dk) (s : ByteArray) : Dk := if x.findE s = 0 then x.called.put s (x.bytes s) (x.sz s) else x.called
set_option maxHeartbeats 1000000 in
set_option maxRecDepth 100000 in
theorem sync_any (d m : Nat) (x : Dk) (nm : ByteArray) (w : World) (h : IsDisk w d m x) (hs : nm.size ≤ maxLen) (hb : nameB nm.data.toList = true) :
    Calls Try.prog 37 #[.pointer (some ⟨d, 0, none⟩), .string nm] w fun e w' => e = .returned (.int .i64 (x.findE nm)) ∧ IsDisk w' d m (x.synced nm) ∧ Turn d m w w' := by
  have hkey := keyOf_string nm hs
  go_enter Try.func37, Try.ntmps37
  go_wp2_with fail
  refine (find_any d m x nm _ h hs hb).mono ?_
  rintro e w1 ⟨s, k, rfl, h1, T, hf, hg⟩
  rcases x.findE_cases nm with hE | hE | hE
  · obtain ⟨hat, k0, k1⟩ := hf hE
    obtain ⟨hby, hke, hsz⟩ := bytes_of hat
    have hR : x.synced nm = x.called.put nm s.data.toList s.size := by simp [Dk.synced, hE, hby, hsz]
    have hzz : x.called.sz nm = s.size := hsz
    have hhas : x.called.hasK nm = true := find_some (x := x) hE
    clear hf hg hat hby hke hsz
    rw [hE]
    go_wp2_with fail
    have h0 := h1.alloc (.cells #[.string s, .int .i64 s.size] 74)
    have T0 := T.alloc (.cells #[.string s, .int .i64 s.size] 74)
    obtain ⟨q0, q1, _, _⟩ := file_at (MapKept.heap_alloc w1 (.cells #[.string s, .int .i64 s.size] 74)).1
    generalize w1.alloc (.cells #[.string s, .int .i64 s.size] 74) = W0 at *
    have c3 : W0.cell? ⟨d, 3, none⟩ = some (.map (some m)) := h0.c 3
    have h2 := h0.drew
    have T2 := T0.drew
    go_still_tail 6, (by kernel_rfl)
    change wpList _ _ _ _ _ W0.drew
    clear h0 T0 q0 q1 c3
    generalize W0.drew = W at *
    go_wp2_with (at_mapUpdate; refine wpList_mapUpdate_own _ rfl _ _ _ 64 rfl 9 74 (string_keyed Try.underlying9) Try.underlying64 _ m (Maps.size x.called.D) x.called.D rfl h2.own (by have := h2.ok.few; unfold maxLen; omega) _ _ (keyL nm) rfl rfl hkey (fd s.data.toList s.size) [] (fileElem_mk s s.size (by omega) (by omega)) ?_; intro w3 hown3 hg3)
    go_ret
    exact ⟨by rw [hE]; rfl, by rw [hR]; exact h2.stored hown3 hg3 hhas (by rw [hzz, Array.length_toList]; rfl), T2.grown hg3⟩
  all_goals
    have hR : x.synced nm = x.called := by simp [Dk.synced, hE]
    clear hf hg
    rw [hE]
    go_wp2
    go_ret
    exact ⟨by rw [hE]; rfl, by rw [hR]; exact h1.alloc _, T.alloc _⟩

theorem file_set0 {W : World} {b : Nat} {s s' : ByteArray} {k : Int} (h : W.heap[b]? = some (.cells #[.string s, .int .i64 k] 74 (0, 0))) :
    (W.setCell ⟨b, 0, none⟩ (.string s')).heap[b]? = some (.cells #[.string s', .int .i64 k] 74 (0, 0)) := by
  simp [World.setCell, Array.getElem?_modify, h]
def Dk.appendE (x : Dk) (nm s : ByteArray) : Int := if x.findE nm = 0 then (if (s.size : Int) > (x.room : Int) - total x.D then 4 else 0) else x.findE nm
def Dk.appended (x : Dk) (nm s : ByteArray) : Dk := if x.appendE nm s = 0 then x.called.put nm (x.bytes nm ++ s.data.toList) (x.kept nm) else x.called
set_option maxHeartbeats 1000000 in
set_option maxRecDepth 100000 in
theorem append_any (d m : Nat) (x : Dk) (nm s2 : ByteArray) (w : World) (h : IsDisk w d m x) (hs : nm.size ≤ maxLen) (hb : nameB nm.data.toList = true) :
    Calls Try.prog 35 #[.pointer (some ⟨d, 0, none⟩), .string nm, .string s2] w fun e w' => e = .returned (.int .i64 (x.appendE nm s2)) ∧ IsDisk w' d m (x.appended nm s2) ∧ Turn d m w w' := by
  have hkey := keyOf_string nm hs
  go_enter Try.func35, Try.ntmps35
  go_wp2_with fail
  refine (find_any d m x nm _ h hs hb).mono ?_
  rintro e w1 ⟨s, k, rfl, h1, T, hf, hg⟩
  by_cases hE : x.findE nm = 0
  · obtain ⟨hat, k0, k1⟩ := hf hE
    obtain ⟨hby, hke, hsz⟩ := bytes_of hat
    have hzz : x.called.sz nm = s.size := hsz
    have hhas : x.called.hasK nm = true := find_some (x := x) hE
    clear hf hg hat
    rw [hE]
    have b1 : total x.D ≤ x.room := h1.ok.fits
    have b2 : x.room ≤ 16777216 := h1.ok.room
    have hw : IntKind.i64.wrap ((x.room : Int) - total x.D) = (x.room : Int) - total x.D := IntWalk.i64_in _ (by omega)
    have h0 := h1.alloc (.cells #[.string s, .int .i64 k] 74)
    have T0 := T.alloc (.cells #[.string s, .int .i64 k] 74)
    have hat := (MapKept.heap_alloc w1 (.cells #[.string s, .int .i64 k] 74)).1
    have c1 : (w1.alloc (.cells #[.string s, .int .i64 k] 74)).cell? ⟨d, 1, none⟩ = some (.int .i64 x.room) := h0.c 1
    have c2 : (w1.alloc (.cells #[.string s, .int .i64 k] 74)).cell? ⟨d, 2, none⟩ = some (.int .i64 (total x.D)) := h0.c 2
    go_wp2_with fail
    generalize w1.alloc (.cells #[.string s, .int .i64 k] 74) = W0 at *
    obtain ⟨q0, q1, q2, q3⟩ := file_at hat
    go_quiet (fail)
    have hcat : s.size + s2.size ≤ 9223372036854775807 ∨ (s2.size : Int) > (x.room : Int) - total x.D := by
      have := total_del (D := x.D) h1.tidy (keyL nm)
      have e : lenOf (x.D.atKey (keyL nm) (fd [] 0)) = s.size := hsz
      omega
    by_cases hbig : (s2.size : Int) > (x.room : Int) - total x.D
    · have hC : x.appendE nm s2 = 4 := by simp [Dk.appendE, hE]; omega
      have hR : x.appended nm s2 = x.called := by simp [Dk.appended, hC]
      go_wp2
      go_ret
      exact ⟨by rw [hC]; rfl, by rw [hR]; exact h0.drewN _, T0.drewN _⟩
    · have hC : x.appendE nm s2 = 0 := by simp [Dk.appendE, hE]; omega
      have hR : x.appended nm s2 = x.called.put nm (s.data.toList ++ s2.data.toList) k := by simp [Dk.appended, hC, hby, hke]
      have hcat2 : s.size + s2.size ≤ 9223372036854775807 := by omega
      clear hcat
      go_wp2_with fail
      have h5 := (h0.drewN nq).setNew w1.heap.size (by have := h1.ltd; omega) (by have := h1.ltm; omega) 0 (.string (s ++ s2))
      have T5 := (T0.drewN nq).setNew w1.heap.size T.size 0 (.string (s ++ s2))
      have q5 : ((W0.drewN nq).setCell ⟨w1.heap.size, 0, none⟩ (.string (s ++ s2))).cell? ⟨w1.heap.size, 0, none⟩ = some (.string (s ++ s2)) := (file_at (file_set0 (W := W0.drewN nq) hat)).1
      have q6 : ((W0.drewN nq).setCell ⟨w1.heap.size, 0, none⟩ (.string (s ++ s2))).cell? ⟨w1.heap.size, 1, none⟩ = some (.int .i64 k) := (file_at (file_set0 (W := W0.drewN nq) hat)).2.1
      generalize (W0.drewN nq).setCell ⟨w1.heap.size, 0, none⟩ (.string (s ++ s2)) = W5 at *
      have c5 : W5.cell? ⟨d, 3, none⟩ = some (.map (some m)) := h5.c 3
      have h6 := h5.drew
      have T6 := T5.drew
      go_still_tail 6, (by kernel_rfl)
      change wpList _ _ _ _ _ W5.drew
      clear h5 T5 q5 q6 c5
      generalize W5.drew = W at *
      have z6 := h6.fz 2
      have c6 : W.cell? ⟨d, 2, none⟩ = some (.int .i64 (total x.D)) := h6.c 2
      go_wp2_with (at_mapUpdate; refine wpList_mapUpdate_own _ rfl _ _ _ 64 rfl 9 74 (string_keyed Try.underlying9) Try.underlying64 _ m (Maps.size x.called.D) x.called.D rfl h6.own (by have := h6.ok.few; unfold maxLen; omega) _ _ (keyL nm) rfl rfl hkey (fd (s ++ s2).data.toList k) [] (fileElem_mk (s ++ s2) k k0 (by rw [ByteArray.size_append]; omega)) ?_; intro w3 hown3 hg3; have hd3 := (hg3.block d h6.ltd (fun e => h6.ne (by cases e; rfl))).trans h6.blk; have c7 : w3.cell? ⟨d, 2, none⟩ = some (.int .i64 (total x.D)) := Lib.cell_of_heap hd3 2; have z7 := Lib.frozen_of_heap hd3 2)
      go_ret
      have eap : (s ++ s2).data.toList = s.data.toList ++ s2.data.toList := by simp [ByteArray.data_append]
      rw [eap] at hown3
      have e1 := total_put_eq (x := x.called) h6.tidy nm (s.data.toList ++ s2.data.toList) k
      have e2 : (s.data.toList ++ s2.data.toList).length = s.size + s2.size := by rw [List.length_append, Array.length_toList, Array.length_toList]; rfl
      have e3 : total x.called.D = total x.D := rfl
      rw [hzz, e2, e3] at e1
      refine ⟨by rw [hC]; rfl, ?_, (T6.grown hg3).setD _ _⟩
      rw [hR]
      refine ⟨h6.ne, ?_, tight (hown3.setCell (a := ⟨d, 2, none⟩) h6.ne _), h6.ok.put h6.tidy nm _ k (.inl hhas) (by rw [e2, hzz, e3]; have e4 : x.called.room = x.room := rfl; rw [e4]; omega)⟩
      have e5 : ((total (x.called.put nm (s.data.toList ++ s2.data.toList) k).D : Nat) : Int) = (total x.D : Int) + s2.size := by omega
      simp only [Dk.put] at e5
      simp [World.setCell, Array.getElem?_modify, hd3, dkCells, Dk.put, e5]
  · have hC : x.appendE nm s2 = x.findE nm := by simp [Dk.appendE, hE]
    have hR : x.appended nm s2 = x.called := by simp [Dk.appended, hC, hE]
    clear hf hg
    go_wp2
    go_ret
    exact ⟨by rw [hC]; rfl, by rw [hR]; exact h1.alloc _, T.alloc _⟩
end Go.Proofs.Ytdmmfeglnmkmdaa
