/- Save of a disk that is up, with room, succeeds. -/
import Derived.Test.YtdmmfeglnmkmdaaW4
import Derived.Test.YtdmmfeglnmkmdaaQ4
namespace Go.Proofs.Ytdmmfeglnmkmdaa
open Go.RowKit Plain

structure Up (x : Dk) : Prop where
  down : x.down = false
  fuse : x.fuse = -1
theorem Up.called {x : Dk} (h : Up x) : Up x.called := ⟨by unfold Dk.called; simp [h.down, h.fuse], by unfold Dk.called; simp [h.fuse]⟩
theorem Up.put {x : Dk} (h : Up x) (nm : ByteArray) (s : List UInt8) (k : Int) : Up (x.put nm s k) := ⟨h.down, h.fuse⟩
theorem Up.without {x : Dk} (h : Up x) (nm : ByteArray) : Up (x.without nm) := ⟨h.down, h.fuse⟩
theorem Up.created {x : Dk} (h : Up x) (nm : ByteArray) : Up (x.created nm) := by
  unfold Dk.created
  split
  · exact h.called.put _ _ _
  · exact h.called
theorem Up.appended {x : Dk} (h : Up x) (nm s : ByteArray) : Up (x.appended nm s) := by
  unfold Dk.appended
  split
  · exact h.called.put _ _ _
  · exact h.called
theorem Up.synced {x : Dk} (h : Up x) (nm : ByteArray) : Up (x.synced nm) := by
  unfold Dk.synced
  split
  · exact h.called.put _ _ _
  · exact h.called
theorem Up.removed {x : Dk} (h : Up x) (nm : ByteArray) : Up (x.removed nm) := by
  unfold Dk.removed
  split
  · exact h.called.without _
  · exact h.called
theorem Up.renamed {x : Dk} (h : Up x) (a b : ByteArray) : Up (x.renamed a b) := by
  unfold Dk.renamed
  split
  · exact ((h.called.without _).without _).put _ _ _
  · exact h.called
theorem Up.find {x : Dk} (h : Up x) (nm : ByteArray) : x.findE nm = if x.hasK nm = true then 0 else 2 := findE_up h.down h.fuse nm
/-- Save of a disk that is up, with room, succeeds. -/
theorem saved_up (x : Dk) (m : Mf) (hu : Up x) (ht : Maps.Tidy x.D) (hr : rightB m = true) (hk : x.hasK nW = false) (h2 : Maps.size x.D ≠ 200) (hl : ((closeL (manB m)).length : Int) ≤ (x.room : Int) - total x.D) : (x.saved m).1 = 0 ∧ Up (x.saved m).2 := by
  have hm : Maps.IsMap x.D := by
    obtain ⟨es, h, _⟩ := ht
    exact ⟨es, h⟩
  unfold Dk.saved
  rw [if_pos hr]
  have hs : (⟨(closeL (manB m)).toArray⟩ : ByteArray).size = (closeL (manB m)).length := List.size_toArray
  rw [← hs] at hl
  generalize (⟨(closeL (manB m)).toArray⟩ : ByteArray) = s at *
  have f0 : x.findE nW = 2 := by rw [hu.find, if_neg (by simp [hk])]
  have e0 : x.stepR s 0 = (0, x.called) := by
    show x.clearR = _
    unfold Dk.clearR
    rw [f0, if_neg (by decide), if_pos rfl]
  rw [saveR_step x s 0 4 (by rw [e0]), e0]
  have u1 := hu.called
  have f1 : x.called.findE nW = 2 := by rw [u1.find, if_neg (by show ¬ x.hasK nW = true; simp [hk])]
  have e1 : x.called.createE nW = 0 := by
    unfold Dk.createE
    rw [f1, if_neg (by decide), if_pos rfl, if_neg (show ¬ Maps.size x.called.D = 200 from h2)]
  rw [saveR_step x.called s 1 3 e1]
  obtain ⟨a1, b1⟩ := created_at (x := x.called) hm e1
  have c1 : x.called.created nW = x.called.called.put nW [] 0 := by unfold Dk.created; rw [if_pos e1]
  have t1 := total_put_eq (x := x.called.called) ht nW [] 0
  rw [← c1] at t1
  have u2 := u1.created nW
  have hroom : (x.called.created nW).room = x.room := by rw [c1]; rfl
  change (Dk.saveR s (1 + 1) 3 (x.called.created nW)).1 = 0 ∧ Up (Dk.saveR s (1 + 1) 3 (x.called.created nW)).2
  have m2 : Maps.IsMap (x.called.created nW).D := by rw [c1]; exact isMap_put hm _ _
  have ts : total (x.called.created nW).D ≤ total x.D := by
    have : total x.called.called.D = total x.D := rfl
    simp at t1
    omega
  generalize x.called.created nW = x2 at *
  have f2 : x2.findE nW = 0 := by rw [u2.find, if_pos b1]
  have e2 : x2.appendE nW s = 0 := by
    unfold Dk.appendE
    rw [if_pos f2, if_neg (by rw [hroom]; omega)]
  rw [saveR_step x2 s 2 2 e2]
  have u3 := u2.appended nW s
  have b2 : (x2.appended nW s).hasK nW = true := by
    unfold Dk.appended
    rw [if_pos e2]
    exact put_has_same (x := x2.called) m2 _ _ _
  have m3 : Maps.IsMap (x2.appended nW s).D := (stays_appended (b := nN) (Ne.symm nW_ne) x2 s).map m2
  show (Dk.saveR s (2 + 1) 2 (x2.appended nW s)).1 = 0 ∧ Up (Dk.saveR s (2 + 1) 2 (x2.appended nW s)).2
  generalize x2.appended nW s = x3 at *
  have f3 : x3.findE nW = 0 := by rw [u3.find, if_pos b2]
  rw [saveR_step x3 s 3 1 f3]
  have u4 := u3.synced nW
  have b3 : (x3.synced nW).hasK nW = true := by
    unfold Dk.synced
    rw [if_pos f3]
    exact put_has_same (x := x3.called) m3 _ _ _
  show (Dk.saveR s (3 + 1) 1 (x3.synced nW)).1 = 0 ∧ Up (Dk.saveR s (3 + 1) 1 (x3.synced nW)).2
  generalize x3.synced nW = x4 at *
  have f4 : x4.findE nW = 0 := by rw [u4.find, if_pos b3]
  rw [saveR_step x4 s 4 0 f4]
  exact ⟨rfl, u4.renamed _ _⟩
end Go.Proofs.Ytdmmfeglnmkmdaa
