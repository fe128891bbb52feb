/- The disk's calls: Remove, Create. -/
import Derived.Test.YtdmmfeglnmkmdaaF
namespace Go.Proofs.Ytdmmfeglnmkmdaa
open Go.RowKit Go.Maps

theorem Dk.findE_cases (x : Dk) (nm : ByteArray) : x.findE nm = 0 ∨ x.findE nm = 2 ∨ x.findE nm = 5 := by
  unfold Dk.findE
  split
  · exact .inr (.inr rfl)
  · split
    · exact .inl rfl
    · exact .inr (.inl rfl)

def Dk.removed (x : Dk) (s : ByteArray) : Dk := if x.findE s = 0 then x.called.without s else x.called
set_option maxHeartbeats 1000000 in
set_option maxRecDepth 100000 in
theorem remove_any (d m : Nat) (x : Dk) (nm : ByteArray) (w : World) (h : IsDisk w d m x) (hs : nm.size ≤ maxLen) (hb : nameB nm.data.toList = true) :
    Calls Try.prog 68 #[.pointer (some ⟨d, 0, none⟩), .string nm] w fun e w' => e = .returned (.int .i64 (x.findE nm)) ∧ IsDisk w' d m (x.removed nm) ∧ Turn d m w w' := by
  go_enter Try.func68, Try.ntmps68
  go_wp2_with fail
  refine (find_any d m x nm _ h hs hb).mono ?_
  rintro e w1 ⟨s, k, rfl, h1, T, hf, hg⟩
  clear hf hg
  have h2 := h1.alloc (.cells #[.string s, .int .i64 k] 74)
  have T2 := T.alloc (.cells #[.string s, .int .i64 k] 74)
  clear h1 T
  rcases x.findE_cases nm with hE | hE | hE
  · have hR : x.removed nm = x.called.without nm := by simp [Dk.removed, hE]
    rw [hE]
    go_wp2_with fail
    refine (drop_any d m x.called nm _ h2 hs).mono ?_
    rintro e w3 ⟨rfl, h3, T3⟩
    go_wp2
    go_ret
    exact ⟨by rw [hE]; rfl, by rw [hR]; exact h3, T2.trans T3⟩
  all_goals
    have hR : x.removed nm = x.called := by simp [Dk.removed, hE]
    rw [hE]
    go_wp2
    go_ret
    exact ⟨by rw [hE]; rfl, by rw [hR]; exact h2, T2⟩

def Dk.put (x : Dk) (nm : ByteArray) (s : List UInt8) (k : Int) : Dk := { x with D := x.D.put (keyL nm) (fd s k) }
theorem Dk.ok.put {x : Dk} (h : x.ok) (ht : Tidy x.D) (nm : ByteArray) (s : List UInt8) (k : Int) (hf : x.hasK nm = true ∨ Maps.size x.D ≠ 200) (hr : total x.D + s.length ≤ x.room + x.sz nm) : (x.put nm s k).ok := by
  have h1 := total_put ht (keyL nm) (fd s k)
  have h2 := size_put (k := keyL nm) ht (fd s k)
  have h4 := h.few
  have h5 : lenOf (x.D.atKey (keyL nm) (fd [] 0)) = x.sz nm := rfl
  rw [h5, lenOf_fd] at h1
  refine ⟨h.room, ?_, ?_, h.f0, h.f1⟩
  · simp only [Dk.put]
    omega
  · simp only [Dk.put]
    rw [h2]
    rcases hf with hf | hf
    · rw [if_pos (show Maps.has x.D (keyL nm) = true from hf)]
      exact h4
    · split <;> omega
theorem total_put_eq {x : Dk} (ht : Tidy x.D) (nm : ByteArray) (s : List UInt8) (k : Int) : total (x.put nm s k).D + x.sz nm = total x.D + s.length := total_put ht (keyL nm) (fd s k)

def Dk.createE (x : Dk) (s : ByteArray) : Int := if x.findE s = 0 then 3 else if x.findE s = 2 then (if Maps.size x.D = 200 then 4 else 0) else 5
def Dk.created (x : Dk) (s : ByteArray) : Dk := if x.createE s = 0 then x.called.put s [] 0 else x.called
theorem atKey_missing {x : Dk} {nm : ByteArray} (h : x.hasK nm = false) : x.sz nm = 0 := by
  unfold Dk.sz Dk.at
  rw [atKey_of_not_has h]
  rfl
theorem find_none {x : Dk} {nm : ByteArray} (h : x.findE nm = 2) : x.hasK nm = false := by
  unfold Dk.findE at h
  split at h
  · cases h
  · split at h
    · cases h
    · simp_all

set_option maxHeartbeats 1000000 in
set_option maxRecDepth 100000 in
theorem create_any (d m : Nat) (x : Dk) (nm : ByteArray) (w : World) (h : IsDisk w d m x) (hs : nm.size ≤ maxLen) (hb : nameB nm.data.toList = true) :
    Calls Try.prog 33 #[.pointer (some ⟨d, 0, none⟩), .string nm] w fun e w' => e = .returned (.int .i64 (x.createE nm)) ∧ IsDisk w' d m (x.created nm) ∧ Turn d m w w' := by
  have hkey := keyOf_string nm hs
  go_enter Try.func33, Try.ntmps33
  go_wp2_with fail
  refine (find_any d m x nm _ h hs hb).mono ?_
  rintro e w1 ⟨s, k, rfl, h1, T, hf, hg⟩
  clear hf hg
  have h2 := h1.alloc (.cells #[.string s, .int .i64 k] 74)
  have T2 := T.alloc (.cells #[.string s, .int .i64 k] 74)
  clear h1 T
  rcases x.findE_cases nm with hE | hE | hE
  · have hC : x.createE nm = 3 := by simp [Dk.createE, hE]
    have hR : x.created nm = x.called := by simp [Dk.created, hC]
    rw [hE]
    go_wp2
    go_ret
    exact ⟨by rw [hC]; rfl, by rw [hR]; exact h2, T2⟩
  · have c3 : (w1.alloc (.cells #[.string s, .int .i64 k] 74)).cell? ⟨d, 3, none⟩ = some (.map (some m)) := h2.c 3
    by_cases hz : Maps.size x.D = 200
    · have hC : x.createE nm = 4 := by simp [Dk.createE, hE, hz]
      have hR : x.created nm = x.called := by simp [Dk.created, hC]
      have hz' : ((Maps.size x.D : Nat) : Int) = 200 := by omega
      rw [hE]
      go_wp2_with (at_len; refine wpList_len_own _ rfl _ 64 rfl 9 74 Try.underlying64 fileElem m (Maps.size x.D) x.D rfl h2.own ?_; rw [hz'])
      go_ret
      exact ⟨by rw [hC]; rfl, by rw [hR]; exact h2, T2⟩
    · have hC : x.createE nm = 0 := by simp [Dk.createE, hE, hz]
      have hR : x.created nm = x.called.put nm [] 0 := by simp [Dk.created, hC]
      have hz' : ¬ ((Maps.size x.D : Nat) : Int) = 200 := by omega
      have hms := find_none hE
      rw [hE]
      go_wp2_with (first
        | (at_len; refine wpList_len_own _ rfl _ 64 rfl 9 74 Try.underlying64 fileElem m (Maps.size x.D) x.D rfl h2.own ?_)
        | (at_mapUpdate; refine wpList_mapUpdate_own _ rfl _ _ _ 64 rfl 9 74 (string_keyed Try.underlying9) Try.underlying64 _ m (Maps.size x.D) x.D rfl h2.own (by have := h2.ok.few; unfold maxLen; simp only [Dk.called] at this; omega) _ _ (keyL nm) rfl rfl hkey (fd [] 0) [] (fileElem_mk ⟨#[]⟩ 0 (by decide) (by decide)) ?_; intro w3 hown3 hg3))
      go_ret
      refine ⟨by rw [hC]; rfl, ?_, T2.grown hg3⟩
      rw [hR]
      refine ⟨h2.ne, ?_, tight hown3, h2.ok.put h2.tidy nm [] 0 (.inr hz) (by have := h2.ok.fits; simp; omega)⟩
      rw [hg3.block d h2.ltd (fun e => h2.ne (by cases e; rfl)), h2.blk]
      have e1 := total_put_eq (x := x.called) h2.tidy nm [] 0
      have e2 : x.called.sz nm = 0 := atKey_missing (x := x.called) hms
      rw [e2] at e1
      simp only [List.length_nil, Nat.add_zero] at e1
      simp only [Dk.put] at e1
      simp [dkCells, e1, Dk.put]
  · have hC : x.createE nm = 5 := by simp [Dk.createE, hE]
    have hR : x.created nm = x.called := by simp [Dk.created, hC]
    rw [hE]
    go_wp2
    go_ret
    exact ⟨by rw [hC]; rfl, by rw [hR]; exact h2, T2⟩
end Go.Proofs.Ytdmmfeglnmkmdaa
