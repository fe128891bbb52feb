/- script.Read of a text whose lines are acts' lines and lines that do not count: the acts. -/
import Derived.Test.YthecllooledpaaaDoorK
import Derived.Test.YthecllooledpaaaDoorE
namespace Go.Proofs.YthecllooledpaaaDoor
open Go.RowKit Plain

/-- A line: a text that does not count, or an act's. -/
inductive Item
  | skip (r : List UInt8)
  | none_
  | act (a : Act)
def Item.txt : Item → List UInt8
  | .skip r => 35 :: r
  | .none_ => []
  | .act a => a.line
def Item.acts : Item → List Act
  | .act a => [a]
  | _ => []
def Item.ok : Item → Prop
  | .act a => a.small ∧ a.right = true
  | _ => True
def actsOf (its : List Item) : List Act := its.flatMap Item.acts
theorem actsOf_take (its : List Item) (k : Nat) (hk : k < its.length) : actsOf (its.take (k + 1)) = actsOf (its.take k) ++ its[k].acts := by
  unfold actsOf
  rw [List.take_succ_eq_append_getElem hk, List.flatMap_append]
  simp
theorem actsOf_le (its : List Item) : (actsOf its).length ≤ its.length := by
  unfold actsOf
  induction its with
  | nil => simp
  | cons i its ih =>
    rw [List.flatMap_cons, List.length_append, List.length_cons]
    have : i.acts.length ≤ 1 := by cases i <;> simp [Item.acts]
    omega
def ReadPost (l : List Act) (w : World) (e : Ending) (w' : World) : Prop := ∃ v, e = .returned (.tuple #[v, .int .i64 0, .int .i64 0]) ∧ Acts w' v l ∧ Below w.heap.size w w'

theorem own_type_ne {w : World} {b b' : Nat} {e e' : TypeId} {s s' n n' : Nat} {v v' : Value} {xs xs' : List Value} (h : w.ownsRow b e s v n xs) (h' : w.ownsRow b' e' s' v' n' xs') (hne : e ≠ e') : v.ownBlock = none ∨ v.ownBlock ≠ v'.ownBlock := by
  rcases h.2 with ⟨rfl, _⟩ | ⟨g, cap, cur, rfl, _, hh, _⟩
  · exact .inl rfl
  · refine .inr fun hk => ?_
    rcases h'.2 with ⟨rfl, _⟩ | ⟨g', cap', cur', rfl, _, hh', _⟩
    · simp [Value.ownBlock] at hk
    · have : g = g' := by simpa [Value.ownBlock] using hk
      subst this
      rw [hh] at hh'
      injection hh' with hh'
      injection hh' with _ hh'
      exact hne hh'
/-- The rows that acts' numbers lie in. -/
def Keeps (w : World) (base : Nat) (zs : List (Act × Value)) : Prop := ∀ z ∈ zs, w.ownsRow base 3 1 z.2 z.1.keep.length (intV z.1.keep)
theorem Keeps.below {w w1 : World} {base : Nat} {zs : List (Act × Value)} (h : Keeps w base zs) (hb : Below w.heap.size w w1) : Keeps w1 base zs := fun z hz => own_below (h z hz) hb
theorem Keeps.grown {w w1 : World} {base base' n s : Nat} {zs : List (Act × Value)} {x : Value} {xs : List Value} (h : Keeps w base zs) (ho : w.ownsRow base' 39 s x n xs) (hg : w.grownBy w1 x.ownBlock) : Keeps w1 base zs :=
  fun z hz => (h z hz).kept hg (own_type_ne (h z hz) ho (by decide))

set_option maxHeartbeats 8000000 in
set_option maxRecDepth 100000 in
theorem read_any (S : List UInt8) (its : List Item) (hp : pieces 10 S = its.map Item.txt) (hok : ∀ i ∈ its, i.ok) (hS : S.length ≤ 100000) (h64 : (actsOf its).length ≤ 64) (hi : its.length ≤ 70) (w : World) (hf : Fit w) :
    Calls Tryd.prog 8 #[.string ⟨S.toArray⟩] w (ReadPost (actsOf its) w) := by
  obtain ⟨i0, hinf, hz0, hz1, hz2⟩ := info_parts Tryd.info39
  have HP := Lib.hid hp
  have HOK := Lib.hid hok
  have H64 := Lib.hid h64
  clear hp hok h64
  go_enter Tryd.func8, Tryd.ntmps8
  go_wp2_with fail
  refine (split_c S 10 _ HP.out (by omega) _ hf).mono ?_
  rintro e w1 ⟨rfl, rfl⟩
  have hcell : ∀ k (h : k < its.length), (w.alloc (.cells ((its.map Item.txt).map strC).toArray 9)).cell? ⟨w.heap.size, k, none⟩ = some (strC its[k].txt) := fun k h => by
    rw [Lib.cell_of_heap (heap_alloc_new w _)]
    simp [h]
  have hb := (Below.refl _ w).alloc (Nat.le_refl _) (.cells ((its.map Item.txt).map strC).toArray 9)
  rw [List.length_map]
  generalize w.alloc (.cells ((its.map Item.txt).map strC).toArray 9) = W at *
  have hfW := hf.below hb
  go_wp2_with fail
  go_loopw [5, 13] (fun x i wr => ∃ k : Nat, ∃ zs : List (Act × Value), k ≤ its.length ∧ i = .int .i64 k ∧ Hid (zs.map Prod.fst = actsOf (its.take k)) ∧ zs.length ≤ k ∧ wr.ownsRow W.heap.size 39 6 x zs.length (flatC zs) ∧ Hid (Keeps wr W.heap.size zs) ∧ Below W.heap.size W wr) (fun _ i _ => its.length - (intOf i).toNat)
  case atStart => exact ⟨0, [], Nat.zero_le _, rfl, rfl, Nat.le_refl _, ⟨by simp [flatC], .inl ⟨rfl, rfl⟩⟩, by unfold Hid Keeps; simp, Below.refl _ _⟩
  case round =>
    obtain ⟨k, zs, hk, rfl, hzs, hzk, hown, hke, hbr⟩ := hrel
    by_cases hlt : k < its.length
    · have hce := keepCell (hcell k hlt) hbr
      unfold strC at hce
      have hit := HOK.out its[k] (List.getElem_mem hlt)
      have hsn := Lib.hid (actsOf_take its k hlt)
      have hk0 : (0 : Int) ≤ (k : Int) := Int.natCast_nonneg _
      have hk1 : (k : Int) < (its.length : Int) := by omega
      generalize its[k] = it at *
      clear hcell
      cases it with
      | none_ =>
        clear hit
        unfold Item.txt at hce
        go_wp2_with fail
        go_roundw
        case rel => exact ⟨k + 1, zs, by omega, by go_num, by unfold Hid; rw [hsn.out, hzs.out]; simp [Item.acts], by omega, hown, hke, hbr⟩
        case measure => simp [intOf]; omega
      | skip r =>
        clear hit
        unfold Item.txt at hce
        go_wp2_with fail
        refine (Tryd.strings_HasPrefix _ _ _).mono ?_
        rintro e w2 ⟨rfl, rfl⟩
        rw [show Lib.hasPrefix (35 :: r) [35] = true by simp [Lib.hasPrefix, List.isPrefixOf]]
        go_wp2_with fail
        go_roundw
        case rel => exact ⟨k + 1, zs, by omega, by go_num, by unfold Hid; rw [hsn.out, hzs.out]; simp [Item.acts], by omega, hown, hke, hbr⟩
        case measure => simp [intOf]; omega
      | act a =>
        obtain ⟨hsm, hri⟩ := hit
        unfold Item.txt at hce
        have hpl := (line_plain a hri).2
        have hpre : Hid (Lib.hasPrefix a.line [35] = false) := by
          obtain ⟨c, r, e, hc⟩ := hpl
          unfold Hid
          rw [e]
          simp [Lib.hasPrefix, List.isPrefixOf]
          exact fun h => hc h.symm
        have hie : a.line.isEmpty = false := by
          obtain ⟨c, r, e, hc⟩ := hpl
          rw [e]
          rfl
        have HR := Lib.hid hri
        clear hpl hri
        go_wp2_with fail
        refine (Tryd.strings_HasPrefix _ _ _).mono ?_
        rintro e w2 ⟨rfl, rfl⟩
        simp only
        rw [hpre.out]
        go_wp2_with fail
        refine (parse_line a hsm HR.out _ (hfW.below hbr)).mono ?_
        rintro e w3 ⟨u, rfl, hw, hb3⟩
        have hown3 := own_below hown hb3
        have hke3 : Hid (Keeps w3 W.heap.size (zs ++ [(a, u)])) := by
          intro z hz
          rcases List.mem_append.1 hz with hz | hz
          · exact (hke.out.below hb3) z hz
          · simp at hz
            subst hz
            exact own_lower hw hbr.size
        obtain ⟨A6, cc, rfl⟩ := own_slice3 hw
        have hbr3 := keepBelow hbr hb3
        clear hw hce
        have hown4 := hown3.alloc (.cells #[.int .i64 a.kind, .string a.name, .string a.s, .int .i64 a.n, .int .u32 a.bits, .slice A6 a.keep.length cc] 39)
        have hbr4 := hbr3.alloc hbr3.size (.cells #[.int .i64 a.kind, .string a.name, .string a.s, .int .i64 a.n, .int .u32 a.bits, .slice A6 a.keep.length cc] 39)
        go_wp2_with (at_builtin; refine wpList_append_own _ rfl _ _ 27 rfl W.heap.size 39 i0 (.agg #[.int .i64 0, .string ⟨#[]⟩, .string ⟨#[]⟩, .int .i64 0, .int .u32 0, .slice none 0 0]) 6 80 Tryd.underlying27 hinf hz0 hz1 hz2 rfl (by decide) _ _ _ rfl (hown4.alloc _) ⟨w3.heap.size + 1, 0, none⟩ 1 1 (actCells a (.slice A6 a.keep.length cc)) rfl rfl ?c1 ?c2 ?c3 ?c4 ?c5 ?_)
        case c1 =>
          have H := heap_alloc_new (w3.alloc (.cells #[.int .i64 a.kind, .string a.name, .string a.s, .int .i64 a.n, .int .u32 a.bits, .slice A6 a.keep.length cc] 39)) (.cells #[.int .i64 a.kind, .string a.name, .string a.s, .int .i64 a.n, .int .u32 a.bits, .slice A6 a.keep.length cc] 39)
          rw [World.size_alloc] at H
          exact World.news_of_block (cs := #[.int .i64 a.kind, .string a.name, .string a.s, .int .i64 a.n, .int .u32 a.bits, .slice A6 a.keep.length cc]) (t := 39) (fr := (0, 0)) H
        case c2 => intro u hu; simp [actCells] at hu; rcases hu with rfl | rfl | rfl | rfl | rfl | rfl <;> rfl
        case c3 => unfold maxLen; omega
        case c4 => omega
        case c5 => have := hbr3.size; simp; omega
        intro v' w5 hown' hgrow _
        go_wp2
        go_roundw
        case rel =>
          refine ⟨k + 1, zs ++ [(a, .slice A6 a.keep.length cc)], by omega, by go_num, ?_, by simp; omega, by rw [flatC_snoc]; simpa using hown', ?_, (hbr4.alloc hbr4.size _).grown hgrow (by have := hbr3.size; simp; omega) (fun g hg => (hown3.lt g hg).1)⟩
          · unfold Hid
            rw [hsn.out, List.map_append, hzs.out]
            rfl
          · exact ((hke3.out.below ((Below.refl _ _).alloc (Nat.le_refl _) _)).below ((Below.refl _ _).alloc (Nat.le_refl _) _)).grown (hown4.alloc _) hgrow
        case measure => simp [intOf]; omega
    · have hkl : k = its.length := by omega
      subst hkl
      have hz : zs.map Prod.fst = actsOf its := by have := hzs.out; rwa [List.take_length] at this
      have hzl : ¬ (64 < zs.length) := by
        have := H64.out
        rw [← hz, List.length_map] at this
        omega
      have HZ := Lib.hid hz
      clear hz hzs hzk
      obtain ⟨Ax, cx, rfl⟩ : ∃ Ax cx, u5 = .slice Ax zs.length cx := by
        rcases id hown.2 with ⟨hv, h0⟩ | ⟨g, cap, cur, hv, _⟩
        · rw [h0] at *; exact ⟨none, 0, hv⟩
        · exact ⟨_, _, hv⟩
      have hfin := acts_of_own hown (fun z hz => ints_of_own (hke.out z hz))
      rw [HZ.out] at hfin
      have hbf := keepBelow hb hbr
      go_wp2
      go_ret3
      exact ⟨_, rfl, hfin, hbf⟩
end Go.Proofs.YthecllooledpaaaDoor
