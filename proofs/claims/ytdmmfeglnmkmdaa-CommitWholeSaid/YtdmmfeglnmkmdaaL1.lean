/- The disk: Rise. -/
import Derived.Test.YtdmmfeglnmkmdaaK
namespace Go.Proofs.Ytdmmfeglnmkmdaa
open Go.RowKit Go.Maps

/-- All names, in order. -/
def Dk.names (x : Dk) : List (List UInt8) := (strKeys x.D).mergeSort (fun x y => decide (x ≤ y))
theorem names_mem {x : Dk} {n : List UInt8} : n ∈ x.names ↔ n ∈ strKeys x.D := List.mem_mergeSort
theorem IsDisk.name_has {w : World} {d m : Nat} {x : Dk} (h : IsDisk w d m x) {n : List UInt8} (hn : n ∈ x.names) : x.hasK ⟨n.toArray⟩ = true ∧ n.length ≤ maxLen := by
  have hn := names_mem.1 hn
  refine ⟨?_, strKeys_le h.own Try.underlying9 n hn⟩
  obtain ⟨es, hD, hko⟩ := h.own.keysOf
  unfold Dk.hasK keyL
  rw [hD] at hn ⊢
  obtain ⟨p, hp, rfl⟩ := List.mem_map.1 hn
  obtain ⟨v, hv⟩ := hko p hp
  obtain ⟨y, _, hy, hl⟩ := Maps.keyOf_str Try.underlying9 hv
  rw [has_eq, List.any_eq_true]
  exact ⟨p, hp, by rw [hy]; simp [Lit.sameKey, strOf]⟩
def riseN (x : Dk) (nm : ByteArray) (k : Option Int) : Int := match k with
  | some k => max 0 (min k ((x.sz nm : Int) - x.kept nm))
  | none => 0
def Dk.riseOne (x : Dk) (nm : ByteArray) (k : Option Int) : Dk := x.put nm ((x.bytes nm).take (x.kept nm + riseN x nm k).toNat) (x.kept nm + riseN x nm k)
def Dk.riseTo (x : Dk) (ns : List (List UInt8)) (ks : List Int) : Nat → Dk
  | 0 => x
  | i + 1 => (x.riseTo ns ks i).riseOne ⟨(ns.getD i []).toArray⟩ ks[i]?
def Dk.risen (x : Dk) (ks : List Int) : Dk := { x.riseTo x.names ks x.names.length with fuse := -1, down := false }

theorem put_hasK {x : Dk} (ht : Tidy x.D) (nm nm' : ByteArray) (s : List UInt8) (k : Int) (h : x.hasK nm' = true) : (x.put nm s k).hasK nm' = true := by
  unfold Dk.hasK Dk.put at *
  by_cases e : nm' = nm
  · subst e
    obtain ⟨es, hD, _⟩ := ht
    exact has_put_same ⟨es, hD⟩ (keyLit _) _
  · rw [has_put_other (key_ne e)]
    exact h
/-- What the map holds of a file. -/
theorem IsDisk.at_file {w : World} {d m : Nat} {x : Dk} (h : IsDisk w d m x) {nm : ByteArray} (hs : nm.size ≤ maxLen) :
    ∃ (s : ByteArray) (k : Int), (Instr.lookup 64 (.map (some m)) (.string nm) false).run Try.prog w = .ok (.agg #[.string s, .int .i64 k]) w ∧ x.at nm = fd s.data.toList k ∧ 0 ≤ k ∧ k ≤ s.size := by
  obtain ⟨v, ps, hrun, hv⟩ := h.own.lookup (string_keyed Try.underlying9) Try.underlying64 (zeroFile_any w) (fileElem_mk ⟨#[]⟩ 0 (by decide) (by decide)) (keyOf_string nm hs)
  obtain ⟨s, k, rfl, hz, k0, k1⟩ := fileElem_inv hv
  exact ⟨s, k, hrun, congrArg Prod.fst hz, k0, k1⟩
theorem extract_take (s : ByteArray) (n : Nat) : (s.extract 0 n).data.toList = s.data.toList.take n := by
  simp [ByteArray.data_extract]
set_option maxHeartbeats 3200000 in
set_option maxRecDepth 100000 in
theorem rise_any (d m : Nat) (x : Dk) (kv : Value) (ks : List Int) (w : World) (h : IsDisk w d m x) (hk : ∀ w', Turn d m w w' → Ints w' kv ks) (hks : ∀ n ∈ ks, -9223372036854775808 ≤ n ∧ n ≤ 9223372036854775807) :
    Calls Try.prog 10 #[.pointer (some ⟨d, 0, none⟩), kv] w fun e w' => e = .returned (.tuple #[]) ∧ IsDisk w' d m (x.risen ks) ∧ Turn d m w w' := by
  have hd := h.ltd
  have hmm := h.ltm
  have hne := h.ne
  obtain ⟨A, c, rfl, a1, a2, _⟩ := hk w (Turn.refl _ _ _)
  unfold maxLen at a2
  have HK := Lib.hid hk
  have HKS := Lib.hid hks
  clear hk hks
  go_enter Try.func10, Try.ntmps10
  go_wp2_with (go_at_call 28; refine (given_so _ _ (h.c 0)).mono ?_; rintro e w' ⟨rfl, rfl⟩)
  refine (names_any d m x _ h).mono ?_
  rintro e w1 ⟨v, ss, rfl, ⟨hS, hrow⟩, hb1⟩
  have hns : ss.mergeSort (fun x y => decide (x ≤ y)) = x.names := mergeSort_of_perm hS
  have hlen : ss.length = x.names.length := by rw [← hns, List.length_mergeSort]
  rw [hns, hlen] at hrow
  clear hS hns hlen
  have h1 := h.below hb1
  have T1 : Turn d m w w1 := Turn.of_below hb1
  have hmem : Hid (∀ n ∈ x.names, x.hasK ⟨n.toArray⟩ = true ∧ n.length ≤ maxLen) := fun n hn => h.name_has hn
  obtain ⟨ns, hns⟩ : ∃ ns, x.names = ns := ⟨_, rfl⟩
  rw [hns] at hrow hmem
  have HNS := Lib.hid hns
  clear hns
  obtain ⟨An, cn, rfl⟩ : ∃ An cn, v = .slice An ns.length cn := by
    rcases hrow.2 with ⟨rfl, h0⟩ | ⟨g, cap, cur, rfl, _⟩
    · exact ⟨none, 0, by rw [h0]⟩
    · exact ⟨_, _, rfl⟩
  go_wp2_with fail
  have hnl : ns.length ≤ 9223372036854775807 := by
    rcases hrow.2 with ⟨_, h0⟩ | ⟨g, cap, cur, _, _, _, h3, h4, _⟩
    · omega
    · unfold maxLen at h4; omega
  go_loopw [14] (fun i wr => ∃ k : Nat, k ≤ ns.length ∧ i = .int .i64 k ∧ IsDisk wr d m (x.riseTo ns ks k) ∧ Turn d m w wr ∧ wr.ownsRow w.heap.size 9 1 (.slice An ns.length cn) ns.length (ns.map encStr) ∧ Hid (∀ n ∈ ns, (x.riseTo ns ks k).hasK ⟨n.toArray⟩ = true ∧ n.length ≤ maxLen)) (fun i _ => ns.length - (intOf i).toNat)
  case atStart => exact ⟨0, Nat.zero_le _, rfl, h1, T1, hrow, hmem⟩
  case round =>
    rename_i wr _
    clear h1 T1 hrow hmem h
    obtain ⟨k, hk, rfl, hy, T, hrow, hmem⟩ := hrel
    by_cases hlt : k < ns.length
    · have hns1 : (x.riseTo ns ks (k + 1)) = (x.riseTo ns ks k).riseOne ⟨(ns.getD k []).toArray⟩ ks[k]? := rfl
      have hgd : ns.getD k [] = ns[k] := by simp [List.getD, List.getElem?_eq_getElem hlt]
      rw [hgd] at hns1
      have hm1 := hmem.out ns[k] (List.getElem_mem hlt)
      have hNS := Lib.hid hns1
      have hap : Hid (∀ v, An = some v → v.off = 0 ∧ wr.cell? ⟨v.block, k, none⟩ = some (.string ⟨ns[k].toArray⟩)) := by
        intro v hv
        rcases id hrow.2 with ⟨hv2, h0⟩ | ⟨g, cap, cur, hv2, hg, _⟩
        · injection hv2 with e1 e2 e3
          rw [hv] at e1
          cases e1
        · injection hv2 with e1 e2 e3
          rw [hv] at e1
          cases e1
          refine ⟨rfl, ?_⟩
          have := hrow.cells (g := g) (by rw [hv]; rfl) k (encStr ns[k]) (by rw [List.getElem?_map, List.getElem?_eq_getElem hlt]; rfl)
          rwa [add_plain] at this
      clear hns1 hgd
      generalize x.riseTo ns ks k = y at *
      generalize ns[k] = nm at *
      obtain ⟨g, rfl⟩ : ∃ g, An = some ⟨g, 0, none⟩ := by
        rcases id hrow.2 with ⟨hv2, h0⟩ | ⟨g, cap, cur, hv2, hg, _⟩
        · injection hv2 with e1 e2 e3
          omega
        · injection hv2 with e1 e2 e3
          exact ⟨g, e1⟩
      have cn1 := (hap.out _ rfl).2
      obtain ⟨s, q, hrun, hat, q0', q1'⟩ := hy.at_file (nm := ⟨nm.toArray⟩) (by show nm.toArray.size ≤ _; rw [List.size_toArray]; exact hm1.2)
      have c3 : wr.cell? ⟨d, 3, none⟩ = some (.map (some m)) := hy.c 3
      have hk0 : (0 : Int) ≤ (k : Int) := Int.natCast_nonneg _
      have hk1 : (k : Int) < (ns.length : Int) := by omega
      have h2 := hy.alloc (.cells #[.string s, .int .i64 q] 74)
      have T2 := T.alloc (.cells #[.string s, .int .i64 q] 74)
      have hrow2 := hrow.alloc (.cells #[.string s, .int .i64 q] 74)
      have hb2 := heap_alloc_new wr (.cells #[.string s, .int .i64 q] 74)
      have hNow := HK.out _ T2
      have hdy := hy.ltd
      have hmy := hy.ltm
      have HAT := Lib.hid hat
      clear hat
      obtain ⟨hby, hke, hsz⟩ := bytes_of HAT.out
      have hHB := Lib.hid hby
      have hHK := Lib.hid hke
      have hHZ := Lib.hid hsz
      have htot : s.size ≤ total y.D := by
        have := total_del (D := y.D) hy.tidy (keyL ⟨nm.toArray⟩)
        have e : lenOf (y.D.atKey (keyL ⟨nm.toArray⟩) (fd [] 0)) = s.size := hsz
        omega
      have hfit := hy.ok.fits
      have hroom := hy.ok.room
      clear hby hke hsz
      have T3 : Turn d m w (wr.alloc (.cells #[.string s, .int .i64 q] 74)) := T2
      by_cases hi : k < ks.length
      · obtain ⟨A1, c1, hv1, _, _, hc1⟩ := hNow
        obtain ⟨ad, hA, hkc⟩ := hc1 k hi
        injection hv1 with e1 e2 e3
        subst e1 e3
        subst hA
        clear e2 hc1
        obtain ⟨b0, b1⟩ := HKS.out (ks.getD k 0) (by simp [List.getD, List.getElem?_eq_getElem hi])
        have hN : Hid (riseN y ⟨nm.toArray⟩ ks[k]? = max 0 (min (ks.getD k 0) ((s.size : Int) - q))) := by
          unfold Hid riseN
          rw [List.getElem?_eq_getElem hi]
          simp [List.getD, List.getElem?_eq_getElem hi, hHK.out, hHZ.out]
        generalize ks.getD k 0 = kk at *
        have hki : (k : Int) < (ks.length : Int) := by omega
        have hwr : IntKind.i64.wrap ((s.size : Int) - q) = (s.size : Int) - q := IntWalk.i64_in _ (by omega)
        obtain ⟨r0, r1, r2, r3⟩ := file_at hb2
        go_wp2_with fail
        go_quiet (fail)
        have n0 : 0 ≤ max 0 (min kk ((s.size : Int) - q)) := by omega
        have n1 : max 0 (min kk ((s.size : Int) - q)) ≤ (s.size : Int) - q := by omega
        have hDq := h2.drewN nq
        have Tq := T2.drewN nq
        have hrq : ((wr.alloc (.cells #[.string s, .int .i64 q] 74)).drewN nq).ownsRow w.heap.size 9 1 (.slice (some ⟨g, 0, none⟩) ns.length cn) ns.length (ns.map encStr) := hrow2
        have hbq : ((wr.alloc (.cells #[.string s, .int .i64 q] 74)).drewN nq).heap[wr.heap.size]? = _ := hb2
        clear r0 r1 r2 r3 hkc h2 T2 hrow2 hb2 hwr
        generalize (wr.alloc (.cells #[.string s, .int .i64 q] 74)).drewN nq = Wq at *
        generalize max 0 (min kk ((s.size : Int) - q)) = n at *
        obtain ⟨r0, r1, r2, r3⟩ := file_at hbq
        go_wp2_with fail
        have hb8 : (Wq.setCell ⟨wr.heap.size, 1, none⟩ (.int .i64 (q + n))).heap[wr.heap.size]? = some (.cells #[.string s, .int .i64 (q + n)] 74 (0, 0)) := by
          simp [World.setCell, Array.getElem?_modify, hbq]
        have hD := hDq.setNew wr.heap.size (by omega) (by omega) 1 (.int .i64 (q + n))
        have T8 := Tq.setNew wr.heap.size T.size 1 (.int .i64 (q + n))
        have hrow8 : (Wq.setCell ⟨wr.heap.size, 1, none⟩ (.int .i64 (q + n))).ownsRow w.heap.size 9 1 (.slice (some ⟨g, 0, none⟩) ns.length cn) ns.length (ns.map encStr) := hrq.kept (row := some wr.heap.size) ⟨rfl, rfl, rfl, by simp [World.setCell], fun i hi hne => Below.heap_setCell _ _ _ i (by simp; exact fun e => hne (by rw [e]))⟩ (.inr (fun e => by have e2 : some g = some wr.heap.size := e; injection e2 with e2; have := (hrow.lt g rfl).2; omega))
        have hp : Hid (riseN y ⟨nm.toArray⟩ ks[k]? = (q + n) - q) := by unfold Hid; rw [hN.out]; omega
        have p0 : q ≤ q + n := by omega
        have p1 : q + n ≤ (s.size : Int) := by omega
        clear r0 r1 r2 r3 hDq Tq hrq hbq hN n0 n1
        generalize Wq.setCell ⟨wr.heap.size, 1, none⟩ (.int .i64 (q + n)) = W8 at *
        generalize q + n = p at *
        obtain ⟨r0, r1, r2, r3⟩ := file_at hb8
        have c2 : W8.cell? ⟨d, 2, none⟩ = some (.int .i64 (total y.D)) := hD.c 2
        have hw1 : IntKind.i64.wrap ((s.size : Int) - p) = (s.size : Int) - p := IntWalk.i64_in _ (by omega)
        have hw2 : IntKind.i64.wrap ((total y.D : Int) - ((s.size : Int) - p)) = (total y.D : Int) - ((s.size : Int) - p) := IntWalk.i64_in _ (by omega)
        have hDd := hD.drew
        have T9 := T8.drew
        have hr9 := hrow8.drew
        have hb9 : W8.drew.heap[wr.heap.size]? = _ := hb8
        go_still_tail 13, (by kernel_rfl)
        change wpList _ _ _ _ _ W8.drew
        clear r0 r1 r2 r3 c2 hD T8 hrow8 hb8 hw1
        generalize W8.drew = X at *
        have z2 : X.frozen? ⟨d, 2, none⟩ = false := hDd.fz 2
        have c2 : X.cell? ⟨d, 2, none⟩ = some (.int .i64 (total y.D)) := hDd.c 2
        have own1 := hDd.own.setCell (a := ⟨d, 2, none⟩) hDd.ne (.int .i64 ((total y.D : Int) - ((s.size : Int) - p)))
        have blk1 : (X.setCell ⟨d, 2, none⟩ (.int .i64 ((total y.D : Int) - ((s.size : Int) - p)))).heap[d]? = some (.cells #[.bool true, .int .i64 y.room, .int .i64 ((total y.D : Int) - ((s.size : Int) - p)), .map (some m), .int .i64 y.fuse, .bool y.down, .int .i64 y.calls] 66 (0, 0)) := by
          simp [World.setCell, Array.getElem?_modify, hDd.blk, dkCells]
        have fb1 : (X.setCell ⟨d, 2, none⟩ (.int .i64 ((total y.D : Int) - ((s.size : Int) - p)))).heap[wr.heap.size]? = _ := (Below.heap_setCell X ⟨d, 2, none⟩ _ wr.heap.size (by simp; omega)).trans hb9
        have T10 := T9.setD 2 (.int .i64 ((total y.D : Int) - ((s.size : Int) - p)))
        have hr10 := ownsRow_setCell_below hr9 (a := ⟨d, 2, none⟩) (by show d < _; omega) (.int .i64 ((total y.D : Int) - ((s.size : Int) - p)))
        obtain ⟨r0, r1, r2, r3⟩ := file_at fb1
        have p2 : 0 ≤ p := by omega
        obtain ⟨u, hu⟩ : ∃ u, s.extract 0 p.toNat = u := ⟨_, rfl⟩
        have hul : u.data.toList = s.data.toList.take p.toNat := by rw [← hu, extract_take]
        have hus : (u.size : Int) = p := by rw [← hu, ByteArray.size_extract]; omega
        have hUL := Lib.hid hul
        have hUS := Lib.hid hus
        clear hul hus
        generalize htot2 : (total y.D : Int) - ((s.size : Int) - p) = t2 at *
        have HT2 := Lib.hid htot2
        clear htot2 hw2
        go_wp2_with fail
        have fb2 : ((X.setCell ⟨d, 2, none⟩ (.int .i64 t2)).setCell ⟨wr.heap.size, 0, none⟩ (.string u)).heap[wr.heap.size]? = some (.cells #[.string u, .int .i64 p] 74 (0, 0)) := by
          rw [← file_set0 (s' := u) fb1]
        have own2 := own1.setCell (a := ⟨wr.heap.size, 0, none⟩) (show m ≠ wr.heap.size by omega) (.string u)
        have blk2 := (Below.heap_setCell (X.setCell ⟨d, 2, none⟩ (.int .i64 t2)) ⟨wr.heap.size, 0, none⟩ (.string u) d (by simp; omega)).trans blk1
        have T11 := T10.setNew wr.heap.size T.size 0 (.string u)
        have hr11 := hr10.kept (w' := (X.setCell ⟨d, 2, none⟩ (.int .i64 t2)).setCell ⟨wr.heap.size, 0, none⟩ (.string u)) (row := some wr.heap.size) ⟨rfl, rfl, rfl, by simp [World.setCell], fun i hi hne => Below.heap_setCell _ _ _ i (by simp; exact fun e => hne (by rw [e]))⟩ (.inr (fun e => by have e2 : some g = some wr.heap.size := e; injection e2 with e2; have := (hrow.lt g rfl).2; omega))
        clear r0 r1 r2 r3 own1 blk1 fb1 T10 hr10 z2 c2 hb9 hr9 T9
        generalize (X.setCell ⟨d, 2, none⟩ (.int .i64 t2)).setCell ⟨wr.heap.size, 0, none⟩ (.string u) = Y at *
        obtain ⟨r0, r1, r2, r3⟩ := file_at fb2
        have c3 : Y.cell? ⟨d, 3, none⟩ = some (.map (some m)) := Lib.cell_of_heap blk2 3
        go_still_tail 6, (by kernel_rfl)
        change wpList _ _ _ _ _ Y.drew
        have own3 : Y.drew.ownsMap Try.prog 9 fileElem m (Maps.size y.D) y.D := own2
        have blk3 : Y.drew.heap[d]? = _ := blk2
        have T12 := T11.drew
        have hr12 := hr11.drew
        clear r0 r1 r2 r3 c3 own2 blk2 fb2 T11 hr11
        generalize Y.drew = Z at *
        have hkey := keyOf_string ⟨nm.toArray⟩ (show (⟨nm.toArray⟩ : ByteArray).size ≤ maxLen by show nm.toArray.size ≤ _; rw [List.size_toArray]; exact hm1.2)
        go_wp2_with (at_mapUpdate; refine wpList_mapUpdate_own _ rfl _ _ _ 64 rfl 9 74 (string_keyed Try.underlying9) Try.underlying64 _ m (Maps.size y.D) y.D rfl own3 (by have := hy.ok.few; unfold maxLen; omega) _ _ (keyL ⟨nm.toArray⟩) rfl rfl hkey (fd u.data.toList p) [] (fileElem_mk u p p2 (by have := hUS.out; omega)) ?_; intro V hownV hgV)
        go_roundw
        case rel =>
          have hro : y.riseOne ⟨nm.toArray⟩ ks[k]? = y.put ⟨nm.toArray⟩ u.data.toList p := by
            unfold Dk.riseOne
            rw [hp.out, hHK.out, hHB.out, hUL.out, show q + (p - q) = p by omega]
          have hul2 : u.data.toList.length = u.size := ba_length u
          have hus2 := hUS.out
          have e1 := total_put_eq (x := y) hy.tidy ⟨nm.toArray⟩ u.data.toList p
          have e2 := hHZ.out
          have e3 := HT2.out
          refine ⟨k + 1, by omega, by go_num, ?_, T12.grown hgV, ?_, ?_⟩
          · rw [hNS.out, hro]
            refine ⟨hne, ?_, tight hownV, hy.ok.put hy.tidy _ _ _ (.inl hm1.1) (by omega)⟩
            rw [hgV.block d (heap_lt blk3) (fun e => hne (by cases e; rfl)), blk3]
            have e4 : ((total (y.put ⟨nm.toArray⟩ u.data.toList p).D : Nat) : Int) = t2 := by omega
            simp only [Dk.put] at e4
            simp [dkCells, Dk.put, e4]
          · exact hr12.kept hgV (.inr (fun e => by have := (hr12.lt m e).1; omega))
          · intro n hn
            rw [hNS.out, hro]
            exact ⟨put_hasK hy.tidy _ _ _ _ (hmem.out n hn).1, (hmem.out n hn).2⟩
        case measure => simp [intOf]; omega
      · have hN : Hid (riseN y ⟨nm.toArray⟩ ks[k]? = 0) := by
          unfold Hid riseN
          rw [List.getElem?_eq_none (by omega)]
        obtain ⟨r0, r1, r2, r3⟩ := file_at hb2
        have hki : ¬ (k : Int) < (ks.length : Int) := by omega
        go_wp2_with fail
        have hb8 := hb2
        have hD := h2
        have T8 := T2
        have hrow8 := hrow2
        obtain ⟨p, hpq⟩ : ∃ p, q = p := ⟨_, rfl⟩
        have hp : Hid (riseN y ⟨nm.toArray⟩ ks[k]? = p - q) := by unfold Hid; rw [hN.out, hpq]; omega
        have p0 : q ≤ p := by omega
        have p1 : p ≤ (s.size : Int) := by omega
        clear r0 r1 r2 r3 h2 T2 hrow2 hb2 hN
        generalize wr.alloc (.cells #[.string s, .int .i64 q] 74) = W8 at *
        rw [hpq] at hb8
        have HPQ := Lib.hid hpq
        clear hpq
        obtain ⟨r0, r1, r2, r3⟩ := file_at hb8
        have c2 : W8.cell? ⟨d, 2, none⟩ = some (.int .i64 (total y.D)) := hD.c 2
        have hw1 : IntKind.i64.wrap ((s.size : Int) - p) = (s.size : Int) - p := IntWalk.i64_in _ (by omega)
        have hw2 : IntKind.i64.wrap ((total y.D : Int) - ((s.size : Int) - p)) = (total y.D : Int) - ((s.size : Int) - p) := IntWalk.i64_in _ (by omega)
        have hDd := hD.drew
        have T9 := T8.drew
        have hr9 := hrow8.drew
        have hb9 : W8.drew.heap[wr.heap.size]? = _ := hb8
        go_still_tail 13, (by kernel_rfl)
        change wpList _ _ _ _ _ W8.drew
        clear r0 r1 r2 r3 c2 hD T8 hrow8 hb8 hw1
        generalize W8.drew = X at *
        have z2 : X.frozen? ⟨d, 2, none⟩ = false := hDd.fz 2
        have c2 : X.cell? ⟨d, 2, none⟩ = some (.int .i64 (total y.D)) := hDd.c 2
        have own1 := hDd.own.setCell (a := ⟨d, 2, none⟩) hDd.ne (.int .i64 ((total y.D : Int) - ((s.size : Int) - p)))
        have blk1 : (X.setCell ⟨d, 2, none⟩ (.int .i64 ((total y.D : Int) - ((s.size : Int) - p)))).heap[d]? = some (.cells #[.bool true, .int .i64 y.room, .int .i64 ((total y.D : Int) - ((s.size : Int) - p)), .map (some m), .int .i64 y.fuse, .bool y.down, .int .i64 y.calls] 66 (0, 0)) := by
          simp [World.setCell, Array.getElem?_modify, hDd.blk, dkCells]
        have fb1 : (X.setCell ⟨d, 2, none⟩ (.int .i64 ((total y.D : Int) - ((s.size : Int) - p)))).heap[wr.heap.size]? = _ := (Below.heap_setCell X ⟨d, 2, none⟩ _ wr.heap.size (by simp; omega)).trans hb9
        have T10 := T9.setD 2 (.int .i64 ((total y.D : Int) - ((s.size : Int) - p)))
        have hr10 := ownsRow_setCell_below hr9 (a := ⟨d, 2, none⟩) (by show d < _; omega) (.int .i64 ((total y.D : Int) - ((s.size : Int) - p)))
        obtain ⟨r0, r1, r2, r3⟩ := file_at fb1
        have p2 : 0 ≤ p := by omega
        obtain ⟨u, hu⟩ : ∃ u, s.extract 0 p.toNat = u := ⟨_, rfl⟩
        have hul : u.data.toList = s.data.toList.take p.toNat := by rw [← hu, extract_take]
        have hus : (u.size : Int) = p := by rw [← hu, ByteArray.size_extract]; omega
        have hUL := Lib.hid hul
        have hUS := Lib.hid hus
        clear hul hus
        generalize htot2 : (total y.D : Int) - ((s.size : Int) - p) = t2 at *
        have HT2 := Lib.hid htot2
        clear htot2 hw2
        go_wp2_with fail
        have fb2 : ((X.setCell ⟨d, 2, none⟩ (.int .i64 t2)).setCell ⟨wr.heap.size, 0, none⟩ (.string u)).heap[wr.heap.size]? = some (.cells #[.string u, .int .i64 p] 74 (0, 0)) := by
          rw [← file_set0 (s' := u) fb1]
        have own2 := own1.setCell (a := ⟨wr.heap.size, 0, none⟩) (show m ≠ wr.heap.size by omega) (.string u)
        have blk2 := (Below.heap_setCell (X.setCell ⟨d, 2, none⟩ (.int .i64 t2)) ⟨wr.heap.size, 0, none⟩ (.string u) d (by simp; omega)).trans blk1
        have T11 := T10.setNew wr.heap.size T.size 0 (.string u)
        have hr11 := hr10.kept (w' := (X.setCell ⟨d, 2, none⟩ (.int .i64 t2)).setCell ⟨wr.heap.size, 0, none⟩ (.string u)) (row := some wr.heap.size) ⟨rfl, rfl, rfl, by simp [World.setCell], fun i hi hne => Below.heap_setCell _ _ _ i (by simp; exact fun e => hne (by rw [e]))⟩ (.inr (fun e => by have e2 : some g = some wr.heap.size := e; injection e2 with e2; have := (hrow.lt g rfl).2; omega))
        clear r0 r1 r2 r3 own1 blk1 fb1 T10 hr10 z2 c2 hb9 hr9 T9
        generalize (X.setCell ⟨d, 2, none⟩ (.int .i64 t2)).setCell ⟨wr.heap.size, 0, none⟩ (.string u) = Y at *
        obtain ⟨r0, r1, r2, r3⟩ := file_at fb2
        have c3 : Y.cell? ⟨d, 3, none⟩ = some (.map (some m)) := Lib.cell_of_heap blk2 3
        go_still_tail 6, (by kernel_rfl)
        change wpList _ _ _ _ _ Y.drew
        have own3 : Y.drew.ownsMap Try.prog 9 fileElem m (Maps.size y.D) y.D := own2
        have blk3 : Y.drew.heap[d]? = _ := blk2
        have T12 := T11.drew
        have hr12 := hr11.drew
        clear r0 r1 r2 r3 c3 own2 blk2 fb2 T11 hr11
        generalize Y.drew = Z at *
        have hkey := keyOf_string ⟨nm.toArray⟩ (show (⟨nm.toArray⟩ : ByteArray).size ≤ maxLen by show nm.toArray.size ≤ _; rw [List.size_toArray]; exact hm1.2)
        go_wp2_with (at_mapUpdate; refine wpList_mapUpdate_own _ rfl _ _ _ 64 rfl 9 74 (string_keyed Try.underlying9) Try.underlying64 _ m (Maps.size y.D) y.D rfl own3 (by have := hy.ok.few; unfold maxLen; omega) _ _ (keyL ⟨nm.toArray⟩) rfl rfl hkey (fd u.data.toList p) [] (fileElem_mk u p p2 (by have := hUS.out; omega)) ?_; intro V hownV hgV)
        go_roundw
        case rel =>
          have hro : y.riseOne ⟨nm.toArray⟩ ks[k]? = y.put ⟨nm.toArray⟩ u.data.toList p := by
            unfold Dk.riseOne
            rw [hp.out, hHK.out, hHB.out, hUL.out, show q + (p - q) = p by omega]
          have hul2 : u.data.toList.length = u.size := ba_length u
          have hus2 := hUS.out
          have e1 := total_put_eq (x := y) hy.tidy ⟨nm.toArray⟩ u.data.toList p
          have e2 := hHZ.out
          have e3 := HT2.out
          refine ⟨k + 1, by omega, by go_num, ?_, T12.grown hgV, ?_, ?_⟩
          · rw [hNS.out, hro]
            refine ⟨hne, ?_, tight hownV, hy.ok.put hy.tidy _ _ _ (.inl hm1.1) (by omega)⟩
            rw [hgV.block d (heap_lt blk3) (fun e => hne (by cases e; rfl)), blk3]
            have e4 : ((total (y.put ⟨nm.toArray⟩ u.data.toList p).D : Nat) : Int) = t2 := by omega
            simp only [Dk.put] at e4
            simp [dkCells, Dk.put, e4]
          · exact hr12.kept hgV (.inr (fun e => by have := (hr12.lt m e).1; omega))
          · intro n hn
            rw [hNS.out, hro]
            exact ⟨put_hasK hy.tidy _ _ _ _ (hmem.out n hn).1, (hmem.out n hn).2⟩
        case measure => simp [intOf]; omega
    · obtain rfl : k = ns.length := by omega
      have e0 : Hid (x.risen ks = { x.riseTo ns ks ns.length with fuse := -1, down := false }) := by
        unfold Hid Dk.risen
        rw [HNS.out]
      generalize x.riseTo ns ks ns.length = y at *
      have z4 := hy.fz 4
      have z5 := hy.fz 5
      have c4 : wr.cell? ⟨d, 4, none⟩ = some (.int .i64 y.fuse) := hy.c 4
      have c5 : wr.cell? ⟨d, 5, none⟩ = some (.bool y.down) := hy.c 5
      go_wp2_with fail
      go_end0
      refine ⟨rfl, ?_, (T.setD 4 _).setD 5 _⟩
      rw [e0.out]
      refine ⟨hne, ?_, (hy.own.setCell (a := ⟨d, 4, none⟩) hne _).setCell (a := ⟨d, 5, none⟩) hne _, ⟨hy.ok.room, hy.ok.fits, hy.ok.few, Int.le_refl _, by simp⟩⟩
      simp [World.setCell, Array.getElem?_modify, hy.blk, dkCells]
end Go.Proofs.Ytdmmfeglnmkmdaa
