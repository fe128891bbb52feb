/- The disk's calls: Size, drop, Remove. -/
import Derived.Test.YtdmmfeglnmkmdaaE
namespace Go.Proofs.Ytdmmfeglnmkmdaa
open Go.RowKit Go.Maps

def Dk.sz (x : Dk) (s : ByteArray) : Nat := lenOf (x.at s)
theorem IsDisk.tidy {w : World} {d m : Nat} {x : Dk} (h : IsDisk w d m x) : Tidy x.D := h.own.tidy (string_keyed Try.underlying9)
theorem IsDisk.isMap {w : World} {d m : Nat} {x : Dk} (h : IsDisk w d m x) : IsMap x.D := h.own.isMap

def Dk.sizeN (x : Dk) (s : ByteArray) : Nat := if x.findE s = 0 then x.sz s else 0
set_option maxHeartbeats 1000000 in
set_option maxRecDepth 100000 in
theorem size_any (d m : Nat) (x : Dk) (nm : ByteArray) (w : World) (h : IsDisk w d m x) (hs : nm.size ≤ maxLen) (hb : nameB nm.data.toList = true) :
    Calls Try.prog 21 #[.pointer (some ⟨d, 0, none⟩), .string nm] w fun e w' => e = .returned (.tuple #[.int .i64 (x.sizeN nm), .int .i64 (x.findE nm)]) ∧ IsDisk w' d m x.called ∧ Turn d m w w' := by
  go_enter Try.func21, Try.ntmps21
  go_wp2_with fail
  refine (find_any d m x nm _ h hs hb).mono ?_
  rintro e w1 ⟨s, k, rfl, h1, T, hf, hg⟩
  have hN : s.size = x.sizeN nm := by
    unfold Dk.sizeN
    by_cases hE : x.findE nm = 0
    · rw [if_pos hE, Dk.sz, (hf hE).1, lenOf_fd, Array.length_toList]
      rfl
    · rw [if_neg hE, (hg hE).1]
      rfl
  clear hf hg
  go_wp2
  go_ret2
  refine ⟨?_, h1.alloc _, T.alloc _⟩
  rw [← hN]
  rfl

def Dk.without (x : Dk) (s : ByteArray) : Dk := { x with D := x.D.del (keyL s) }
theorem Dk.ok.without {x : Dk} (h : x.ok) (ht : Tidy x.D) (s : ByteArray) : (x.without s).ok := by
  have h1 := total_del ht (keyL s)
  have h2 := size_del (k := keyL s) ht
  have h3 := h.fits
  have h4 := h.few
  refine ⟨h.room, ?_, ?_, h.f0, h.f1⟩ <;> simp only [Dk.without] <;> omega
theorem tight {w : World} {b n : Nat} {D : DataW Unit} (h : w.ownsMap Try.prog 9 fileElem b n D) : w.ownsMap Try.prog 9 fileElem b (Maps.size D) D := by
  obtain ⟨es, clock, hb, F, hs, rfl⟩ := h
  exact ⟨es, clock, hb, F, by rw [Maps.size_eq, length_sorted]; simp, rfl⟩

theorem field_s (s : ByteArray) (k : Int) (W : World) : (Instr.field 74 (.agg #[.string s, .int .i64 k]) 0).run Try.prog W = .ok (.string s) W := by
  simp [Instr.field, asAgg, part, go_sem]
set_option maxHeartbeats 1000000 in
set_option maxRecDepth 100000 in
theorem drop_any (d m : Nat) (x : Dk) (nm : ByteArray) (w : World) (h : IsDisk w d m x) (hs : nm.size ≤ maxLen) :
    Calls Try.prog 70 #[.pointer (some ⟨d, 0, none⟩), .string nm] w fun e w' => e = .returned (.tuple #[]) ∧ IsDisk w' d m (x.without nm) ∧ Turn d m w w' := by
  have hkey := keyOf_string nm hs
  obtain ⟨v, ps, hrun, hv⟩ := h.drew.own.lookup (string_keyed Try.underlying9) Try.underlying64 (zeroFile_any w.drew) (fileElem_mk ⟨#[]⟩ 0 (by decide) (by decide)) hkey
  obtain ⟨s, k, rfl, hz, k0, k1⟩ := fileElem_inv hv
  have c2 : w.cell? ⟨d, 2, none⟩ = some (.int .i64 (total x.D)) := h.c 2
  have c3 : w.cell? ⟨d, 3, none⟩ = some (.map (some m)) := h.c 3
  have z2 := h.fz 2
  have hfs := field_s
  go_enter Try.func70, Try.ntmps70
  go_wp2_with fail
  go_still_tail 15, (by kernel_rfl)
  have hD := h.drew
  have T := (Turn.refl d m w).drew
  change wpList _ _ _ _ _ w.drew
  clear hrun hv c2 c3 z2
  generalize w.drew = w2 at *
  have c2 : w2.cell? ⟨d, 2, none⟩ = some (.int .i64 (total x.D)) := hD.c 2
  have c3 : w2.cell? ⟨d, 3, none⟩ = some (.map (some m)) := hD.c 3
  have z2 := hD.fz 2
  have hown := hD.own.setCell (a := ⟨d, 2, none⟩) hD.ne (.int .i64 (total (x.without nm).D))
  have hsz : wrap64 ((total x.D : Int) - s.size) = total (x.without nm).D := by
    have e1 := total_del hD.tidy (keyL nm)
    have e2 : lenOf (x.D.atKey (keyL nm) (fd [] 0)) = s.size := by
      rw [show x.D.atKey (keyL nm) (fd [] 0) = fd s.data.toList k from congrArg Prod.fst hz, lenOf_fd, Array.length_toList]
      rfl
    have e3 := hD.ok.fits
    have e4 := hD.ok.room
    simp only [Dk.without]
    rw [e2] at e1
    rw [show ((total x.D : Int) - s.size) = ((total (x.D.del (keyL nm)) : Nat) : Int) from by omega]
    unfold wrap64
    omega
  go_wp2_with (at_delete; refine wpList_delete_own _ rfl _ _ 64 9 rfl 74 (string_keyed Try.underlying9) Try.underlying64 _ m _ x.D rfl hown _ _ rfl hkey ?_; intro w3 hown3 hturn3)
  have hg := hturn3.grown
  go_end0
  refine ⟨rfl, ⟨hD.ne, ?_, tight hown3, hD.ok.without hD.tidy nm⟩, ((T.setD _ _).grown hg)⟩
  rw [hg.block d (by simpa [World.setCell] using hD.ltd) (fun e => hD.ne (by cases e; rfl))]
  simp [World.setCell, Array.getElem?_modify, hD.blk, dkCells, Dk.without]
end Go.Proofs.Ytdmmfeglnmkmdaa
