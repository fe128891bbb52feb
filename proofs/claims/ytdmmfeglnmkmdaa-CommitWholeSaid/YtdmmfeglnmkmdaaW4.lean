/- The plain law of a saved manifest: the old one, or the new one. -/
import Derived.Test.YtdmmfeglnmkmdaaW3
namespace Go.Proofs.Ytdmmfeglnmkmdaa
open Go.RowKit Plain Go.Maps

theorem isMap_put {D : DataW Unit} (h : IsMap D) (k : Lit) (d : DataW Unit) : IsMap (D.put k d) := by
  obtain ⟨es, rfl⟩ := h
  exact ⟨_, rfl⟩
theorem isMap_del {D : DataW Unit} (h : IsMap D) (k : Lit) : IsMap (D.del k) := by
  obtain ⟨es, rfl⟩ := h
  exact ⟨_, rfl⟩
theorem put_at_same {x : Dk} (h : IsMap x.D) (nm : ByteArray) (s : List UInt8) (k : Int) : (x.put nm s k).at nm = fd s k := atKey_put_same h (keyLit _) _ _
theorem put_has_same {x : Dk} (h : IsMap x.D) (nm : ByteArray) (s : List UInt8) (k : Int) : (x.put nm s k).hasK nm = true := has_put_same h (keyLit _) _
theorem put_at_other {x : Dk} {a b : ByteArray} (h : b ≠ a) (s : List UInt8) (k : Int) : (x.put a s k).at b = x.at b := atKey_put_other (key_ne h) _ _
theorem put_has_other {x : Dk} {a b : ByteArray} (h : b ≠ a) (s : List UInt8) (k : Int) : (x.put a s k).hasK b = x.hasK b := has_put_other (key_ne h) _
theorem del_at_other {x : Dk} {a b : ByteArray} (h : b ≠ a) : (x.without a).at b = x.at b := atKey_del_other (key_ne h) _
theorem del_has_other {x : Dk} {a b : ByteArray} (h : b ≠ a) : (x.without a).hasK b = x.hasK b := has_del_other (key_ne h)
theorem fd_bytes (s : List UInt8) (k : Int) : bytesOf (fd s k) = s := rfl
theorem fd_kept (s : List UInt8) (k : Int) : keptOf (fd s k) = k := rfl
/-- Of one file nothing is turned. -/
structure Stays (b : ByteArray) (x y : Dk) : Prop where
  at_ : y.at b = x.at b
  has : y.hasK b = x.hasK b
  map : IsMap x.D → IsMap y.D
theorem Stays.refl (b : ByteArray) (x : Dk) : Stays b x x := ⟨rfl, rfl, id⟩
theorem Stays.trans {b : ByteArray} {x y z : Dk} (h : Stays b x y) (k : Stays b y z) : Stays b x z := ⟨k.at_.trans h.at_, k.has.trans h.has, fun m => k.map (h.map m)⟩
theorem stays_called (b : ByteArray) (x : Dk) : Stays b x x.called := ⟨rfl, rfl, id⟩
theorem stays_put {a b : ByteArray} (h : b ≠ a) (x : Dk) (s : List UInt8) (k : Int) : Stays b x (x.put a s k) := ⟨put_at_other h s k, put_has_other h s k, fun m => isMap_put m _ _⟩
theorem stays_del {a b : ByteArray} (h : b ≠ a) (x : Dk) : Stays b x (x.without a) := ⟨del_at_other h, del_has_other h, fun m => isMap_del m _⟩
theorem stays_created {a b : ByteArray} (h : b ≠ a) (x : Dk) : Stays b x (x.created a) := by
  unfold Dk.created
  split
  · exact (stays_called b x).trans (stays_put h _ _ _)
  · exact stays_called b x
theorem stays_appended {a b : ByteArray} (h : b ≠ a) (x : Dk) (s : ByteArray) : Stays b x (x.appended a s) := by
  unfold Dk.appended
  split
  · exact (stays_called b x).trans (stays_put h _ _ _)
  · exact stays_called b x
theorem stays_synced {a b : ByteArray} (h : b ≠ a) (x : Dk) : Stays b x (x.synced a) := by
  unfold Dk.synced
  split
  · exact (stays_called b x).trans (stays_put h _ _ _)
  · exact stays_called b x
theorem stays_removed {a b : ByteArray} (h : b ≠ a) (x : Dk) : Stays b x (x.removed a) := by
  unfold Dk.removed
  split
  · exact (stays_called b x).trans (stays_del h _)
  · exact stays_called b x
theorem stays_cleared (x : Dk) : Stays nN x x.clearR.2 := by
  unfold Dk.clearR
  split
  · exact (stays_called nN x).trans (stays_removed (Ne.symm nW_ne) _)
  · split <;> exact stays_called nN x
theorem created_at {x : Dk} (hm : IsMap x.D) {a : ByteArray} (h : x.createE a = 0) : (x.created a).at a = fd [] 0 ∧ (x.created a).hasK a = true := by
  unfold Dk.created
  rw [if_pos h]
  exact ⟨put_at_same (x := x.called) hm _ _ _, put_has_same (x := x.called) hm _ _ _⟩
theorem appended_at {x : Dk} (hm : IsMap x.D) {a s : ByteArray} (h : x.appendE a s = 0) : (x.appended a s).at a = fd (x.bytes a ++ s.data.toList) (x.kept a) := by
  unfold Dk.appended
  rw [if_pos h]
  exact put_at_same (x := x.called) hm _ _ _
theorem synced_at {x : Dk} (hm : IsMap x.D) {a : ByteArray} (h : x.findE a = 0) : (x.synced a).at a = fd (x.bytes a) (x.sz a) := by
  unfold Dk.synced
  rw [if_pos h]
  exact put_at_same (x := x.called) hm _ _ _
theorem renamed_at {x : Dk} (hm : IsMap x.D) {a b : ByteArray} (hne : a ≠ b) (h : x.findE a = 0) : (x.renamed a b).at b = fd (x.bytes a) (x.kept a) ∧ (x.renamed a b).hasK b = true ∧ IsMap (x.renamed a b).D := by
  unfold Dk.renamed
  rw [if_pos ⟨h, hne⟩]
  have hm2 : IsMap ((x.called.without b).without a).D := isMap_del (isMap_del hm _) _
  exact ⟨put_at_same hm2 _ _ _, put_has_same hm2 _ _ _, isMap_put hm2 _ _⟩
theorem renamed_not {x : Dk} {a b : ByteArray} (h : x.findE a ≠ 0) : x.renamed a b = x.called := by
  unfold Dk.renamed
  rw [if_neg (fun e => h e.1)]
/-- What Save leaves: the file as it was, if something went wrong; else the new one. -/
theorem saved_not (x : Dk) (m : Mf) (h : (x.saved m).1 ≠ 0) : Stays nN x (x.saved m).2 := by
  unfold Dk.saved at *
  split at h
  · rename_i hr
    rw [if_pos hr]
    generalize (⟨(closeL (manB m)).toArray⟩ : ByteArray) = s at *
    have n1 := Ne.symm nW_ne
    by_cases e0 : (x.stepR s 0).1 = 0
    · rw [saveR_step x s 0 4 e0] at h ⊢
      have s0 : Stays nN x (x.stepR s 0).2 := stays_cleared x
      generalize (x.stepR s 0).2 = x1 at *
      by_cases e1 : (x1.stepR s 1).1 = 0
      · rw [saveR_step x1 s 1 3 e1] at h ⊢
        have s1 : Stays nN x (x1.stepR s 1).2 := s0.trans (stays_created n1 x1)
        generalize (x1.stepR s 1).2 = x2 at *
        by_cases e2 : (x2.stepR s 2).1 = 0
        · rw [saveR_step x2 s 2 2 e2] at h ⊢
          have s2 : Stays nN x (x2.stepR s 2).2 := s1.trans (stays_appended n1 x2 s)
          generalize (x2.stepR s 2).2 = x3 at *
          by_cases e3 : (x3.stepR s 3).1 = 0
          · rw [saveR_step x3 s 3 1 e3] at h ⊢
            have s3 : Stays nN x (x3.stepR s 3).2 := s2.trans (stays_synced n1 x3)
            generalize (x3.stepR s 3).2 = x4 at *
            by_cases e4 : (x4.stepR s 4).1 = 0
            · rw [saveR_step x4 s 4 0 e4] at h
              exact absurd rfl h
            · rw [saveR_stop x4 s 4 0 e4]
              have : (x4.stepR s 4).2 = x4.called := renamed_not e4
              rw [this]
              exact s3.trans (stays_called nN x4)
          · rw [saveR_stop x3 s 3 1 e3]
            exact s2.trans (stays_synced n1 x3)
        · rw [saveR_stop x2 s 2 2 e2]
          exact s1.trans (stays_appended n1 x2 s)
      · rw [saveR_stop x1 s 1 3 e1]
        exact s0.trans (stays_created n1 x1)
    · rw [saveR_stop x s 0 4 e0]
      exact stays_cleared x
  · rename_i hr
    rw [if_neg hr]
    exact Stays.refl _ _
theorem saved_yes (x : Dk) (m : Mf) (hm : IsMap x.D) (h : (x.saved m).1 = 0) : rightB m = true ∧ (x.saved m).2.hasK nN = true ∧ (x.saved m).2.at nN = fd (closeL (manB m)) (closeL (manB m)).length ∧ IsMap (x.saved m).2.D := by
  unfold Dk.saved at *
  split at h
  · rename_i hr
    rw [if_pos hr]
    refine ⟨hr, ?_⟩
    have hs : (⟨(closeL (manB m)).toArray⟩ : ByteArray).data.toList = closeL (manB m) := rfl
    generalize (⟨(closeL (manB m)).toArray⟩ : ByteArray) = s at *
    rw [← hs]
    by_cases e0 : (x.stepR s 0).1 = 0
    · rw [saveR_step x s 0 4 e0] at h ⊢
      have m1 := (stays_cleared x).map hm
      change IsMap (x.stepR s 0).2.D at m1
      generalize (x.stepR s 0).2 = x1 at *
      by_cases e1 : (x1.stepR s 1).1 = 0
      · rw [saveR_step x1 s 1 3 e1] at h ⊢
        have a1 : (x1.stepR s 1).2.at nW = fd [] 0 := (created_at m1 e1).1
        have m2 := (stays_created (b := nN) (Ne.symm nW_ne) x1).map m1
        change IsMap (x1.stepR s 1).2.D at m2
        generalize (x1.stepR s 1).2 = x2 at *
        by_cases e2 : (x2.stepR s 2).1 = 0
        · rw [saveR_step x2 s 2 2 e2] at h ⊢
          have a2 : (x2.stepR s 2).2.at nW = fd s.data.toList 0 := by
            have := appended_at m2 e2
            unfold Dk.bytes Dk.kept at this
            rw [a1] at this
            exact this
          have m3 := (stays_appended (b := nN) (Ne.symm nW_ne) x2 s).map m2
          change IsMap (x2.stepR s 2).2.D at m3
          generalize (x2.stepR s 2).2 = x3 at *
          by_cases e3 : (x3.stepR s 3).1 = 0
          · rw [saveR_step x3 s 3 1 e3] at h ⊢
            have a3 : (x3.stepR s 3).2.at nW = fd s.data.toList s.data.toList.length := by
              have := synced_at m3 e3
              unfold Dk.bytes Dk.sz at this
              rw [a2] at this
              exact this
            have m4 := (stays_synced (b := nN) (Ne.symm nW_ne) x3).map m3
            change IsMap (x3.stepR s 3).2.D at m4
            generalize (x3.stepR s 3).2 = x4 at *
            by_cases e4 : (x4.stepR s 4).1 = 0
            · rw [saveR_step x4 s 4 0 e4]
              obtain ⟨b1, b2, b3⟩ := renamed_at m4 nW_ne e4
              unfold Dk.bytes Dk.kept at b1
              rw [a3] at b1
              exact ⟨b2, b1, b3⟩
            · rw [saveR_stop x4 s 4 0 e4] at h
              exact absurd h e4
          · rw [saveR_stop x3 s 3 1 e3] at h
            exact absurd h e3
        · rw [saveR_stop x2 s 2 2 e2] at h
          exact absurd h e2
      · rw [saveR_stop x1 s 1 3 e1] at h
        exact absurd h e1
    · rw [saveR_stop x s 0 4 e0] at h
      exact absurd h e0
  · exact absurd h (by simp)

theorem sz_fd {x : Dk} {nm : ByteArray} {s : List UInt8} {k : Int} (h : x.at nm = fd s k) : x.sz nm = s.length ∧ x.bytes nm = s ∧ x.kept nm = k := by
  unfold Dk.sz Dk.bytes Dk.kept
  rw [h]
  exact ⟨rfl, rfl, rfl⟩
/-- A file all of whose bytes are kept stays as it is when the machine rises. -/
theorem riseOne_kept {x : Dk} (hm : IsMap x.D) {b : ByteArray} {s : List UInt8} (h : x.at b = fd s s.length) (nm : ByteArray) (k : Option Int) : (x.riseOne nm k).at b = fd s s.length := by
  unfold Dk.riseOne
  by_cases e : b = nm
  · subst e
    obtain ⟨e1, e2, e3⟩ := sz_fd h
    rw [put_at_same hm, e2, e3]
    have hn : riseN x b k = 0 := by
      unfold riseN
      split
      · rw [e1, e3]; omega
      · rfl
    rw [hn]
    simp
  · rw [put_at_other e, h]
theorem riseTo_kept {x : Dk} (hm : IsMap x.D) {b : ByteArray} {s : List UInt8} (h : x.at b = fd s s.length) (ns : List (List UInt8)) (ks : List Int) : ∀ k, (x.riseTo ns ks k).at b = fd s s.length ∧ IsMap (x.riseTo ns ks k).D
  | 0 => ⟨h, hm⟩
  | k + 1 => by
    obtain ⟨h1, h2⟩ := riseTo_kept hm h ns ks k
    exact ⟨riseOne_kept h2 h1 _ _, isMap_put h2 _ _⟩
theorem riseTo_has {x : Dk} (hm : IsMap x.D) {b : ByteArray} (h : x.hasK b = true) (ns : List (List UInt8)) (ks : List Int) : ∀ k, (x.riseTo ns ks k).hasK b = true ∧ IsMap (x.riseTo ns ks k).D
  | 0 => ⟨h, hm⟩
  | k + 1 => by
    obtain ⟨h1, h2⟩ := riseTo_has hm h ns ks k
    refine ⟨?_, isMap_put h2 _ _⟩
    show ((x.riseTo ns ks k).riseOne _ _).hasK b = true
    unfold Dk.riseOne
    by_cases e : b = ⟨(ns.getD k []).toArray⟩
    · rw [← e]
      exact put_has_same h2 _ _ _
    · rw [put_has_other e]
      exact h1
theorem riseTo_none {x : Dk} (hm : IsMap x.D) {b : ByteArray} (h : x.hasK b = false) (ns : List (List UInt8)) (ks : List Int) (hns : ∀ n ∈ ns, x.hasK ⟨n.toArray⟩ = true) : ∀ k, k ≤ ns.length → (x.riseTo ns ks k).hasK b = false ∧ IsMap (x.riseTo ns ks k).D
  | 0, _ => ⟨h, hm⟩
  | k + 1, hk => by
    obtain ⟨h1, h2⟩ := riseTo_none hm h ns ks hns k (by omega)
    refine ⟨?_, isMap_put h2 _ _⟩
    show ((x.riseTo ns ks k).riseOne _ _).hasK b = false
    unfold Dk.riseOne
    have hkl : k < ns.length := by omega
    have hg : ns.getD k [] = ns[k] := by simp [List.getD, List.getElem?_eq_getElem hkl]
    have e : b ≠ ⟨(ns.getD k []).toArray⟩ := by
      intro e
      rw [hg] at e
      have := hns ns[k] (List.getElem_mem hkl)
      rw [← e, h] at this
      cases this
    rw [put_has_other e]
    exact h1
/-- What holds between rounds: the file of the manifest is not there, or holds what was saved last, all of it kept. -/
def Inv (x : Dk) (is : Bool) (was : Mf) : Prop := IsMap x.D ∧ (is = false → x.hasK nN = false ∧ was = ⟨0, 0, []⟩) ∧ (is = true → x.hasK nN = true ∧ rightB was = true ∧ was.wf ∧ x.at nN = fd (closeL (manB was)) (closeL (manB was)).length)
theorem Inv.same {x y : Dk} {is : Bool} {was : Mf} (h : Inv x is was) (hD : y.D = x.D) : Inv y is was := by
  obtain ⟨x1, D, x3, x4, x5⟩ := x
  obtain ⟨y1, D', y3, y4, y5⟩ := y
  subst hD
  exact h
theorem Inv.saved_no {x : Dk} {is : Bool} {was m : Mf} (h : Inv x is was) (he : (x.saved m).1 ≠ 0) : Inv (x.saved m).2 is was := by
  obtain ⟨h1, h2, h3⟩ := h
  have s := saved_not x m he
  exact ⟨s.map h1, fun e => ⟨s.has.trans (h2 e).1, (h2 e).2⟩, fun e => by
    obtain ⟨a, b, c, d⟩ := h3 e
    exact ⟨s.has.trans a, b, c, s.at_.trans d⟩⟩
theorem Inv.saved_yes {x : Dk} {is : Bool} {was m : Mf} (h : Inv x is was) (hw : m.wf) (he : (x.saved m).1 = 0) : Inv (x.saved m).2 true m ∧ rightB m = true := by
  obtain ⟨a, b, c, d⟩ := Go.Proofs.Ytdmmfeglnmkmdaa.saved_yes x m h.1 he
  exact ⟨⟨d, fun e => (by cases e), fun _ => ⟨b, a, hw, c⟩⟩, a⟩
theorem Inv.risen {x : Dk} {is : Bool} {was : Mf} (h : Inv x is was) (hns : ∀ n ∈ x.names, x.hasK ⟨n.toArray⟩ = true) (ks : List Int) : Inv (x.risen ks) is was := by
  obtain ⟨h1, h2, h3⟩ := h
  have base : Inv (x.riseTo x.names ks x.names.length) is was := by
    refine ⟨?_, fun e => ?_, fun e => ?_⟩
    · cases is
      · exact (riseTo_none h1 (h2 rfl).1 x.names ks hns x.names.length (Nat.le_refl _)).2
      · exact (riseTo_has h1 (h3 rfl).1 x.names ks x.names.length).2
    · exact ⟨(riseTo_none h1 (h2 e).1 x.names ks hns x.names.length (Nat.le_refl _)).1, (h2 e).2⟩
    · obtain ⟨a, b, c, d⟩ := h3 e
      exact ⟨(riseTo_has h1 a x.names ks x.names.length).1, b, c, (riseTo_kept h1 d x.names ks x.names.length).1⟩
  exact base.same rfl
theorem findE_up {x : Dk} (h1 : x.down = false) (h2 : x.fuse = -1) (nm : ByteArray) : x.findE nm = if x.hasK nm = true then 0 else 2 := by
  unfold Dk.findE
  rw [h1, h2]
  rfl
/-- What Load tells of a disk that is up. -/
theorem Inv.loads {x : Dk} {is : Bool} {was : Mf} (h : Inv x is was) (h1 : x.down = false) (h2 : x.fuse = -1) :
    x.loadM = ((if is = true then some was else none), 0) ∧ Inv x.loadS is was ∧ x.loadS.down = false ∧ x.loadS.fuse = -1 := by
  have c1 : x.called.down = false := by unfold Dk.called; simp [h1, h2]
  have c2 : x.called.fuse = -1 := by unfold Dk.called; simp [h2]
  have d1 : x.called.called.down = false := by unfold Dk.called at *; simp [h1, h2]
  have d2 : x.called.called.fuse = -1 := by unfold Dk.called at *; simp [h2]
  have hE := findE_up h1 h2 nN
  have hE2 : x.called.findE nN = if x.hasK nN = true then 0 else 2 := findE_up c1 c2 nN
  cases is
  · rw [if_neg (by simp [(h.2.1 rfl).1])] at hE hE2
    refine ⟨?_, ?_, ?_, ?_⟩
    · unfold Dk.loadM
      rw [hE, if_neg (by decide), if_pos rfl]
      rfl
    all_goals
      unfold Dk.loadS
      rw [hE, if_neg (by decide)]
    · exact h.same rfl
    · exact c1
    · exact c2
  · obtain ⟨a, b, c, d⟩ := h.2.2 rfl
    rw [if_pos a] at hE hE2
    refine ⟨?_, ?_, ?_, ?_⟩
    · unfold Dk.loadM
      rw [hE, if_pos rfl, hE2, if_pos rfl, (sz_fd d).2.1, get_put was b c]
      rfl
    all_goals
      unfold Dk.loadS
      rw [hE, if_pos rfl]
    · exact h.same rfl
    · exact d1
    · exact d2
end Go.Proofs.Ytdmmfeglnmkmdaa
