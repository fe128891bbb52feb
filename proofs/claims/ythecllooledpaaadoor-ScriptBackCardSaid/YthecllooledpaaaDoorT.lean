/- script.Text: the lines of acts, or nothing; chainmanlaw42.list: the document's acts as the program's. -/
import Derived.Test.YthecllooledpaaaDoorN3
namespace Go.Proofs.YthecllooledpaaaDoor
open Go.RowKit

theorem add_field (ad : Addr) (m j : Nat) (hj : 0 < j) : ad.add (m + j) = ⟨(ad.add m).block, (ad.add m).off + j, none⟩ := by
  unfold Addr.add
  by_cases hm : m = 0
  · subst hm; simp; omega
  · simp [hm]; omega
/-- An element's six cells, as the walk spells them. -/
theorem Acts.at_ {w : World} {A : Option Addr} {n c : Nat} {l : List Act} (h : Acts w (.slice A n c) l) (k : Nat) (hk : k < l.length) :
    n = l.length ∧ ∃ ad A6 cc, A = some ad ∧ Ints w (.slice A6 l[k].keep.length cc) l[k].keep ∧ w.cell? (ad.add (k * 6)) = some (.int .i64 l[k].kind) ∧ w.cell? ⟨(ad.add (k * 6)).block, (ad.add (k * 6)).off + 1, none⟩ = some (.string l[k].name) ∧
      w.cell? ⟨(ad.add (k * 6)).block, (ad.add (k * 6)).off + 2, none⟩ = some (.string l[k].s) ∧ w.cell? ⟨(ad.add (k * 6)).block, (ad.add (k * 6)).off + 3, none⟩ = some (.int .i64 l[k].n) ∧
      w.cell? ⟨(ad.add (k * 6)).block, (ad.add (k * 6)).off + 4, none⟩ = some (.int .u32 l[k].bits) ∧ w.cell? ⟨(ad.add (k * 6)).block, (ad.add (k * 6)).off + 5, none⟩ = some (.slice A6 l[k].keep.length cc) := by
  obtain ⟨A', c', hv, _, _, hel⟩ := h
  injection hv with q1 q2 q3
  subst q1 q2 q3
  obtain ⟨ad, u, rfl, hu, hcell⟩ := hel k l[k] (List.getElem?_eq_getElem hk)
  obtain ⟨A6, cc, rfl, _⟩ := id hu
  have c0 := hcell 0 _ rfl
  have c1 := hcell 1 _ rfl
  have c2 := hcell 2 _ rfl
  have c3 := hcell 3 _ rfl
  have c4 := hcell 4 _ rfl
  have c5 := hcell 5 _ rfl
  rw [add_field _ _ _ (by omega)] at c1 c2 c3 c4 c5
  exact ⟨rfl, ad, A6, cc, rfl, hu, c0, c1, c2, c3, c4, c5⟩

theorem Bl.below {N b : Nat} {bs : List Value} {w w1 : World} (h : Bl N b bs w) (hb : Below w.heap.size w w1) : Bl N b bs w1 := by
  obtain ⟨h1, h2, p, v, hk, hp, hown⟩ := h
  exact ⟨h1, Nat.le_trans h2 hb.size, p, v, (hb.block b (by omega)).trans hk, hp, own_below hown hb⟩

def Act.right (a : Act) : Bool := rightV a.kind a.name a.s a.n a.bits a.keep
def Act.line (a : Act) : List UInt8 := lineL a.kind a.name.data.toList a.s.data.toList a.n a.bits a.keep
/-- What Few lets in, and that each number is of its kind. -/
structure Act.small (a : Act) : Prop where
  name : a.name.size ≤ 40
  s : a.s.size ≤ 400
  keep : a.keep.length ≤ 12
  n0 : -9223372036854775808 ≤ a.n
  n1 : a.n ≤ 9223372036854775807
  b0 : 0 ≤ a.bits
  b1 : a.bits < 4294967296
  ks : ∀ n ∈ a.keep, -9223372036854775808 ≤ n ∧ n ≤ 9223372036854775807

theorem line_yes (a : Act) (u : Value) (w : World) (hf : Fit w) (hu : Ints w u a.keep) (hs : a.small) (hr : a.right = true) :
    Calls Tryd.prog 12 #[.agg #[.int .i64 a.kind, .string a.name, .string a.s, .int .i64 a.n, .int .u32 a.bits, u]] w fun e w' => e = .returned (.tuple #[.string ⟨a.line.toArray⟩, .bool true]) ∧ Below w.heap.size w w' := by
  obtain ⟨k, nm, s, n, b, ks⟩ := a
  obtain ⟨h1, h2, h3, h4, h5, h6, h7, h8⟩ := hs
  unfold Act.right at hr
  unfold Act.line
  simp only at *
  by_cases c0 : k = 0
  · subst c0; exact line_0 nm s n b u ks w hu h1 h2 hr
  by_cases c1 : k = 1
  · subst c1; exact line_1 nm s n b u ks w hu (by omega) hr
  by_cases c2 : k = 2
  · subst c2; exact line_2 nm s n b u ks w hf hu (by omega) h4 h5 hr
  by_cases c3 : k = 3
  · subst c3; exact line_3 nm s n b u ks w hf hu h1 h8 h3 hr
  by_cases c4 : k = 4
  · subst c4; exact line_4 nm s n b u ks w hf hu h1 h4 h5 h6 h7 hr
  by_cases c5 : k = 5
  · subst c5; exact line_5 nm s n b u ks w hu (by omega) hr
  exfalso
  unfold rightV at hr
  have hk : k < 0 ∨ 5 < k := by omega
  rcases hk with hk | hk
  · rw [decide_eq_false (show ¬ 0 ≤ k by omega)] at hr; simp at hr
  · rw [decide_eq_false (show ¬ k ≤ 5 by omega)] at hr; simp at hr

theorem line_no (a : Act) (u : Value) (w : World) (hu : Ints w u a.keep) (hs : a.small) (hr : a.right = false) :
    Calls Tryd.prog 12 #[.agg #[.int .i64 a.kind, .string a.name, .string a.s, .int .i64 a.n, .int .u32 a.bits, u]] w fun e w' => e = .returned (.tuple #[.string ⟨#[]⟩, .bool false]) ∧ Below w.heap.size w w' :=
  line_not _ _ _ _ _ _ _ w hu (by have := hs.name; omega) hr

def linesL (l : List Act) : List UInt8 := l.flatMap fun a => a.line ++ [10]

def allB (l : List Act) : Bool := l.all Act.right
def textR (l : List Act) : ByteArray := if allB l = true then ⟨(linesL l).toArray⟩ else ⟨#[]⟩
theorem textR_no {l : List Act} (h : allB l = false) : textR l = ⟨#[]⟩ := by unfold textR; rw [h]; rfl
theorem textR_yes {l : List Act} (h : allB l = true) : textR l = ⟨(linesL l).toArray⟩ := by unfold textR; rw [if_pos h]
theorem ret_sb {a b : ByteArray} {c d : Bool} (h : a = b) (k : c = d) : Ending.returned (.tuple #[.string a, .bool c]) = .returned (.tuple #[.string b, .bool d]) := by rw [h, k]

theorem bs_append (x y : List UInt8) : ((⟨x.toArray⟩ : ByteArray) ++ ⟨y.toArray⟩) = ⟨(x ++ y).toArray⟩ := by
  apply ByteArray.ext
  simp [ByteArray.data_append]
theorem orL_length (l : List UInt8) (m : Nat) (h : l.length ≤ m) (h1 : 1 ≤ m) : (orL l).length ≤ m := by
  unfold orL
  split
  · simpa using h1
  · exact h
theorem line_length (a : Act) (hs : a.small) : a.line.length ≤ 1000 := by
  obtain ⟨k, nm, s, n, b, ks⟩ := a
  obtain ⟨h1, h2, h3, h4, h5, h6, h7, h8⟩ := hs
  simp only at *
  have hn := Lib.itoa_length_le n h4 h5
  have hb := Lib.itoa_length_le b (by omega) (by omega)
  have hk := orL_length _ _ (itoas_length ks h8 h3) (by omega)
  have hx := orL_length (hexL s.data.toList) 800 (by rw [hexL_length, Array.length_toList]; have : s.data.size = s.size := rfl; omega) (by omega)
  have hnm : nm.data.toList.length ≤ 40 := by rw [Array.length_toList]; exact h1
  unfold Act.line lineL wordsL
  simp only
  rw [Array.length_toList] at hnm
  generalize orL (hexL s.data.toList) = x1 at *
  generalize orL (Lib.join (ks.map Lib.itoa) [44]) = x2 at *
  split
  · simp [Lib.join, List.intercalate, putL]; omega
  split
  · simp [Lib.join, List.intercalate, runL]
  split
  · simp [Lib.join, List.intercalate, armL]; omega
  split
  · simp [Lib.join, List.intercalate, riseL]; omega
  split
  · simp [Lib.join, List.intercalate, turnL]; omega
  · simp [Lib.join, List.intercalate, clearL]
theorem lines_length (l : List Act) (hs : ∀ a ∈ l, a.small) (h : l.length ≤ 64) : (linesL l).length ≤ 64064 := by
  have H : ∀ (l : List Act), (∀ a ∈ l, a.small) → (linesL l).length ≤ 1001 * l.length := by
    intro l
    induction l with
    | nil => intro _; simp [linesL]
    | cons a l ih =>
      intro ha
      have h1 := ih (fun m hm => ha m (List.mem_cons_of_mem _ hm))
      have h2 := line_length a (ha a List.mem_cons_self)
      unfold linesL at h1 ⊢
      rw [List.flatMap_cons, List.length_append, List.length_append]
      simp only [List.length_cons, List.length_nil]
      omega
  have := H l hs
  omega

set_option maxHeartbeats 4000000 in
set_option maxRecDepth 100000 in
theorem text_long (v : Value) (l : List Act) (w : World) (hl : Acts w v l) (h : 64 < l.length) :
    Calls Tryd.prog 6 #[v] w fun e w' => e = .returned (.tuple #[.string ⟨#[]⟩, .bool false]) ∧ Below w.heap.size w w' := by
  obtain ⟨A, c, rfl, h1, h2, h3⟩ := hl
  go_enter Tryd.func6, Tryd.ntmps6
  go_wp2
  go_ret2
  exact ⟨rfl, Below.refl _ _⟩

set_option maxHeartbeats 4000000 in
set_option maxRecDepth 100000 in
theorem text_any (v : Value) (l : List Act) (w : World) (hf : Fit w) (hl : Acts w v l) (h64 : ¬ 64 < l.length) (hs : ∀ a ∈ l, a.small) :
    Calls Tryd.prog 6 #[v] w fun e w' => e = .returned (.tuple #[.string (textR l), .bool (allB l)]) ∧ Below w.heap.size w w' := by
  obtain ⟨A, c, rfl, h1, h2, h3⟩ := id hl
  unfold maxLen at h2
  have hB : Bl (w.heap.size + 1) w.heap.size [] (w.alloc (.cells #[.pointer none, .slice none 0 0] 46)) := ⟨by omega, by simp, .pointer none, .slice none 0 0, heap_alloc_new w _, .inl rfl, by simp, .inl ⟨rfl, rfl⟩⟩
  have hb0 := (Below.refl _ w).alloc (Nat.le_refl _) (.cells #[.pointer none, .slice none 0 0] 46)
  clear h3
  go_enter Tryd.func6, Tryd.ntmps6
  go_wp2
  go_loopw [14] (fun i wr => ∃ k : Nat, k ≤ l.length ∧ i = .int .i64 k ∧ Hid (allB (l.take k) = true) ∧ Bl (w.heap.size + 1) w.heap.size (Lib.byteCells (linesL (l.take k))) wr ∧ Below w.heap.size w wr) (fun i _ => l.length - (intOf i).toNat)
  case atStart => exact ⟨0, Nat.zero_le _, rfl, rfl, hB, hb0⟩
  case round =>
    obtain ⟨k, hk, rfl, hall, hbl, hbr⟩ := hrel
    by_cases hlt : k < l.length
    · obtain ⟨_, ad, A6, cc, rfl, hu, c0, c1, c2, c3, c4, c5⟩ := (hl.below hbr).at_ k hlt
      have hsm := hs l[k] (List.getElem_mem hlt)
      have hsn : Hid (linesL (l.take (k + 1)) = linesL (l.take k) ++ l[k].line ++ [10]) := by
        unfold Hid linesL
        rw [List.take_succ_eq_append_getElem hlt, List.flatMap_append]
        simp
      have hal : Hid (allB (l.take (k + 1)) = (allB (l.take k) && l[k].right)) := by
        unfold Hid allB
        rw [List.take_succ_eq_append_getElem hlt, List.all_append]
        simp
      have hno : Hid (l[k].right = false → allB l = false) := by
        intro h
        unfold allB
        rw [List.all_eq_false]
        exact ⟨l[k], List.getElem_mem hlt, by simp [h]⟩
      have hlen : Hid ((linesL (l.take k)).length ≤ 64064) := lines_length _ (fun a ha => hs a (List.mem_of_mem_take ha)) (by have := List.length_take_le k l; omega)
      have hln : Hid (l[k].line.length ≤ 1000) := line_length _ hsm
      generalize l[k] = a at *
      generalize linesL (l.take k) = done at *
      cases hr : a.right
      · have HR := Lib.hid hr
        clear hr
        go_wp2_with fail
        refine (line_no a _ _ (hu.below ((Below.refl _ _).alloc (Nat.le_refl _) _)) hsm HR.out).mono ?_
        rintro e w1 ⟨rfl, hb1⟩
        go_wp2
        go_ret2
        refine ⟨ret_sb (textR_no (hno.out HR.out)).symm (hno.out HR.out).symm, ?_⟩
        exact keepBelow (hbr.alloc hbr.size _) hb1
      · have HR := Lib.hid hr
        clear hr
        go_wp2_with fail
        refine (line_yes a _ _ ((hf.below hbr).below ((Below.refl _ _).alloc (Nat.le_refl _) _)) (hu.below ((Below.refl _ _).alloc (Nat.le_refl _) _)) hsm HR.out).mono ?_
        rintro e w1 ⟨rfl, hb1⟩
        have hbl1 := (hbl.below ((Below.refl _ _).alloc (Nat.le_refl _) _)).below hb1
        have hln' : a.line.length ≤ 1000 := hln.out
        go_wp2_with fail
        have hap : (({ data := a.line.toArray } : ByteArray) ++ { data := #[10] }) = ⟨(a.line ++ [10]).toArray⟩ := bs_append a.line [10]
        rw [hap]
        refine (writeString_any _ _ _ _ _ hbl1 (by rw [Lib.byteCells_length]; have := hlen.out; show _ + (a.line ++ [10]).toArray.size ≤ _; simp; omega)).mono ?_
        rintro e w2 ⟨rfl, hbl2, hbut2⟩
        rw [Lib.strCells_toArray, ← Lib.byteCells_append, ← List.append_assoc, ← hsn.out] at hbl2
        go_wp2
        go_roundw
        case rel => exact ⟨k + 1, by omega, by go_num, by unfold Hid; rw [hal.out, hall.out, HR.out]; rfl, hbl2, (keepBelow (hbr.alloc hbr.size _) hb1).trans (hbut2.below (by omega))⟩
        case measure => simp [intOf]; omega
    · have : k = l.length := by omega
      subst this
      have hy : allB l = true := by have := hall.out; rwa [List.take_length] at this
      have hY := Lib.hid hy
      clear hy
      rw [List.take_length] at hbl
      go_wp2_with (go_at_call 14; refine (builderString_any _ _ _ _ hbl).mono ?_)
      rintro e w1 ⟨rfl, hb1⟩
      go_wp2
      go_ret2
      exact ⟨ret_sb (textR_yes hY.out).symm hY.out.symm, hbr.trans hb1⟩
end Go.Proofs.YthecllooledpaaaDoor
