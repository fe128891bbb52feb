/- script.Parse of a text that is none: the panic is caught; two such texts. -/
import Derived.Test.YthecllooledpaaaDoorP
namespace Go.Proofs.YthecllooledpaaaDoor
open Go.RowKit Plain

def zeroV : Value := .agg #[.int .i64 0, .string ⟨#[]⟩, .string ⟨#[]⟩, .int .i64 0, .int .u32 0, .slice none 0 0]
set_option maxHeartbeats 1000000 in
set_option maxRecDepth 100000 in
theorem parse_no (S : ByteArray) (H : ∀ w, Fit w → Calls Tryd.prog 19 #[.string S] w fun e w' => e = .panicked wrongP ∧ Below w.heap.size w w') (w : World) (hf : Fit w) :
    Calls Tryd.prog 11 #[.string S] w fun e w' => e = .returned (.tuple #[zeroV, .bool false]) ∧ Below w.heap.size w w' := by
  have HH := Lib.hid H
  clear H
  have hb0 : Below w.heap.size w ((w.alloc zeroA).alloc (.cells #[.bool false] 4)) := ((Below.refl _ w).alloc (Nat.le_refl _) _).alloc (by simp) _
  have hres : ((w.alloc zeroA).alloc (.cells #[.bool false] 4)).heap[w.heap.size]? = some zeroA := by
    rw [Below.heap_alloc _ _ _ (by simp)]
    exact heap_alloc_new w _
  have hokc : ((w.alloc zeroA).alloc (.cells #[.bool false] 4)).heap[w.heap.size + 1]? = some (.cells #[.bool false] 4) := by
    have := heap_alloc_new (w.alloc zeroA) (.cells #[.bool false] 4)
    rwa [World.size_alloc] at this
  go_enter_defers Tryd.func11, Tryd.ntmps11
  go_wp2_with fail
  refine ((show Calls _ _ _ ((w.alloc zeroA).alloc (.cells #[.bool false] 4)) _ from HH.out _ (hf.below hb0))).mono ?_
  rintro e w1 ⟨rfl, hb⟩
  have hr1 := (hb.block _ (heap_lt hres)).trans hres
  have ho1 := (hb.block _ (heap_lt hokc)).trans hokc
  have hbw := keepBelow hb0 hb
  clear hb hb0 hres hokc
  have o0 : w1.cell? ⟨w.heap.size + 1, 0, none⟩ = some (.bool false) := by rw [Lib.cell_of_heap ho1]; rfl
  have of : w1.frozen? ⟨w.heap.size + 1, 0, none⟩ = false := Lib.frozen_of_heap ho1 0
  unfold wrongP
  go_wp2
  refine leaves_cons (f := 18) (args := #[.pointer (some ⟨w.heap.size + 1, 0, none⟩)]) (by simp) (by simp [go_sem]) ?_
  refine (caught_panicking _ false [] _ o0 of).mono ?_
  rintro e u' w'' ⟨rfl, rfl, rfl⟩
  have r1 : (w1.setCell ⟨w.heap.size + 1, 0, none⟩ (.bool false)).heap[w.heap.size]? = some zeroA := (Below.heap_setCell _ _ _ _ (by simp)).trans hr1
  have r2 : (w1.setCell ⟨w.heap.size + 1, 0, none⟩ (.bool false)).heap[w.heap.size + 1]? = some (.cells #[.bool false] 4) := by simp [World.setCell, Array.getElem?_modify, ho1]
  have r4 := hbw.setCell (p := ⟨w.heap.size + 1, 0, none⟩) (by simp) (.bool false)
  generalize w1.setCell ⟨w.heap.size + 1, 0, none⟩ (.bool false) = W3 at *
  unfold zeroV
  exact ⟨.tuple #[.agg #[.int .i64 0, .string ⟨#[]⟩, .string ⟨#[]⟩, .int .i64 0, .int .u32 0, .slice none 0 0], .bool false], results_11 _ W3 w.heap.size rfl rfl r1 r2, rfl, r4⟩

def bad1 : List UInt8 := putL ++ 32 :: ([105, 110, 112, 117, 116] ++ 32 :: [48, 97, 70, 48])
set_option maxHeartbeats 4000000 in
set_option maxRecDepth 100000 in
theorem act_bad1 (w : World) (hf : Fit w) : Calls Tryd.prog 19 #[.string ⟨bad1.toArray⟩] w fun e w' => e = .panicked wrongP ∧ Below w.heap.size w w' := by
  have st := St.start w bad1
  go_enter Tryd.func19, Tryd.ntmps19
  go_wp2_with fail
  refine (show Calls _ _ _ (actW w bad1) _ from word_any _ bad1 putL ([105, 110, 112, 117, 116] ++ 32 :: [48, 97, 70, 48]) true _ (hf.below st.bel) st.cur (by decide) (cut_hit 32 putL _ (by decide))).mono ?_
  rintro e w1 ⟨rfl, hc, ho⟩
  replace st := st.only ho hc
  clear ho hc
  go_wp2_with fail
  refine (word_any _ _ [105, 110, 112, 117, 116] [48, 97, 70, 48] true _ (hf.below st.bel) st.cur (by decide) (cut_hit 32 [105, 110, 112, 117, 116] _ (by decide))).mono ?_
  rintro e w2 ⟨rfl, hc, ho⟩
  replace st := st.only ho hc
  clear ho hc
  go_wp2_with fail
  refine (word_any _ _ [48, 97, 70, 48] [] false _ (hf.below st.bel) st.cur (by decide) (cut_miss 32 _ (by decide))).mono ?_
  rintro e w3 ⟨rfl, hc, ho⟩
  replace st := st.only ho hc
  clear ho hc
  go_wp2_with fail
  refine (bytes_bad [10] (by decide) _).mono ?_
  rintro e w4 ⟨rfl, hb⟩
  have hbb := keepBelow st.bel hb
  clear hb st
  unfold wrongP
  go_wp2
  exact ⟨rfl, rfl, hbb⟩

def bad2 : List UInt8 := armL ++ 32 :: [48, 55]
set_option maxHeartbeats 4000000 in
set_option maxRecDepth 100000 in
theorem act_bad2 (w : World) (hf : Fit w) : Calls Tryd.prog 19 #[.string ⟨bad2.toArray⟩] w fun e w' => e = .panicked wrongP ∧ Below w.heap.size w w' := by
  have st := St.start w bad2
  go_enter Tryd.func19, Tryd.ntmps19
  go_wp2_with fail
  refine (show Calls _ _ _ (actW w bad2) _ from word_any _ bad2 armL [48, 55] true _ (hf.below st.bel) st.cur (by decide) (cut_hit 32 armL _ (by decide))).mono ?_
  rintro e w1 ⟨rfl, hc, ho⟩
  replace st := st.only ho hc
  clear ho hc
  go_wp2_with fail
  refine (word_any _ _ [48, 55] [] false _ (hf.below st.bel) st.cur (by decide) (cut_miss 32 _ (by decide))).mono ?_
  rintro e w2 ⟨rfl, hc, ho⟩
  replace st := st.only ho hc
  clear ho hc
  go_wp2_with fail
  refine (number_07 _ (hf.below st.bel)).mono ?_
  rintro e w4 ⟨rfl, hb⟩
  have hbb := keepBelow st.bel hb
  clear hb st
  unfold wrongP
  go_wp2
  exact ⟨rfl, rfl, hbb⟩
end Go.Proofs.YthecllooledpaaaDoor
