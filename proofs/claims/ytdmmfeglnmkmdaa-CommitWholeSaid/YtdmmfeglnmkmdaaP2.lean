/- Plain words, no program in sight: a manifest, its bytes, and the manifest of bytes. -/
import Derived.Test.YtdmmfeglnmkmdaaP1
namespace Go.Proofs.Ytdmmfeglnmkmdaa.Plain

structure Fl where
  name : ByteArray
  size : Int
  count : Int
  sum : Int
structure Mf where
  stage : Int
  pass : Int
  files : List Fl
def Fl.wf (f : Fl) : Prop := 0 ≤ f.sum ∧ f.sum < 4294967296
def Mf.wf (m : Mf) : Prop := ∀ f ∈ m.files, f.wf

def mayB (f : Fl) : Bool := nameB f.name.data.toList && (decide (1 ≤ f.size) && (decide (f.size ≤ 64) && (decide (0 ≤ f.count) && decide (f.count ≤ 4611686018427387904))))
def okAt (fs : List Fl) (i : Nat) : Bool := match fs[i]? with
  | some f => mayB f && !((fs.take i).any fun g => g.name.data.toList == f.name.data.toList)
  | none => true
def headB (m : Mf) : Bool := decide (1 ≤ m.stage) && (decide (m.stage ≤ 7) && (decide (0 ≤ m.pass) && (decide (m.pass ≤ 1000) && decide (m.files.length ≤ 16))))
def rightB (m : Mf) : Bool := headB m && (List.range m.files.length).all (okAt m.files)

theorem right_of {m : Mf} (h : headB m = true) (hk : ∀ i, i < m.files.length → okAt m.files i = true) : rightB m = true := by
  unfold rightB
  rw [h, Bool.true_and, List.all_eq_true]
  exact fun i hi => hk i (List.mem_range.1 hi)
theorem right_not {m : Mf} (i : Nat) (hi : i < m.files.length) (h : okAt m.files i = false) : rightB m = false := by
  unfold rightB
  rw [Bool.and_eq_false_iff]
  right
  rw [List.all_eq_false]
  exact ⟨i, List.mem_range.2 hi, by simp [h]⟩
theorem right_head {m : Mf} (h : rightB m = true) : headB m = true := by
  unfold rightB at h
  simp only [Bool.and_eq_true] at h
  exact h.1
theorem right_at {m : Mf} (h : rightB m = true) {f : Fl} (hf : f ∈ m.files) : mayB f = true := by
  unfold rightB at h
  simp only [Bool.and_eq_true] at h
  obtain ⟨i, hi, rfl⟩ := List.mem_iff_getElem.1 hf
  have := List.all_eq_true.1 h.2 i (List.mem_range.2 hi)
  unfold okAt at this
  rw [List.getElem?_eq_getElem hi] at this
  simp only [Bool.and_eq_true] at this
  exact this.1
structure May (f : Fl) : Prop where
  name : nameB f.name.data.toList = true
  len : f.name.size ≤ 24
  s0 : 1 ≤ f.size
  s1 : f.size ≤ 64
  c0 : 0 ≤ f.count
  c1 : f.count ≤ 4611686018427387904
theorem may_of {f : Fl} (h : mayB f = true) : May f := by
  unfold mayB at h
  simp only [Bool.and_eq_true, decide_eq_true_eq] at h
  obtain ⟨h0, h1, h2, h3, h4⟩ := h
  refine ⟨h0, ?_, h1, h2, h3, h4⟩
  unfold nameB at h0
  simp only [Bool.and_eq_true, decide_eq_true_eq] at h0
  have := h0.2.2
  rwa [Array.length_toList] at this
structure Head (m : Mf) : Prop where
  s0 : 1 ≤ m.stage
  s1 : m.stage ≤ 7
  p0 : 0 ≤ m.pass
  p1 : m.pass ≤ 1000
  few : m.files.length ≤ 16
theorem head_of {m : Mf} (h : headB m = true) : Head m := by
  unfold headB at h
  simp only [Bool.and_eq_true, decide_eq_true_eq] at h
  exact ⟨h.1, h.2.1, h.2.2.1, h.2.2.2.1, h.2.2.2.2⟩
theorem head_mk {m : Mf} (h : Head m) : headB m = true := by
  obtain ⟨a, b, c, d, e⟩ := h
  unfold headB
  simp [a, b, c, d, e]

/-- The bytes. -/
def magic : List UInt8 := [77, 65, 78, 49]
def flB (f : Fl) : List UInt8 := beL 1 f.name.size ++ (f.name.data.toList ++ (beL 1 f.size.toNat ++ (beL 8 f.count.toNat ++ beL 4 f.sum.toNat)))
def manB (m : Mf) : List UInt8 := magic ++ (beL 2 m.stage.toNat ++ (beL 2 m.pass.toNat ++ (beL 1 m.files.length ++ m.files.flatMap flB)))
def putM (m : Mf) : Option (List UInt8) := if rightB m = true then some (closeL (manB m)) else none

/-- The cursor. -/
structure Cur where
  rest : List UInt8
  bad : Bool
def takeC (c : Cur) (n : Nat) : List UInt8 × Bool × Cur := if c.rest.length < n then ([], false, c) else (c.rest.take n, true, ⟨c.rest.drop n, c.bad⟩)
def numV (c : Cur) (k : Nat) : Nat := (getN (takeC c k).1 k).1
def numS (c : Cur) (k : Nat) : Cur := ⟨(takeC c k).2.2.rest, c.bad || (!(takeC c k).2.1 || !(getN (takeC c k).1 k).2)⟩
def textS (c : Cur) (n : Nat) : Cur := ⟨(takeC c n).2.2.rest, c.bad || !(takeC c n).2.1⟩
def fileV (c : Cur) : Fl :=
  let c1 := numS c 1
  let c2 := textS c1 (numV c 1)
  let c3 := numS c2 1
  let c4 := numS c3 8
  ⟨⟨(takeC c1 (numV c 1)).1.toArray⟩, numV c2 1, numV c3 8, numV c4 4⟩
def fileS (c : Cur) : Cur := numS (numS (numS (textS (numS c 1) (numV c 1)) 1) 8) 4
def filesC : Nat → Cur → List Fl → List Fl × Cur
  | 0, c, fs => (fs, c)
  | n + 1, c, fs => if c.bad = true then (fs, c) else filesC n (fileS c) (fs ++ [fileV c])
def bodyC (t : List UInt8) : Mf × Cur :=
  let c := (⟨t, false⟩ : Cur)
  let c1 := numS c 2
  let c2 := numS c1 2
  let c3 := numS c2 1
  let r := filesC (numV c2 1) c3 []
  (⟨numV c 2, numV c1 2, r.1⟩, r.2)
def okC (x : Mf × Cur) : Bool := !x.2.bad && (x.2.rest.isEmpty && rightB x.1)
def getM (s : List UInt8) : Option Mf := match openL s with
  | none => none
  | some t => if magic.isPrefixOf t = true then (if okC (bodyC (t.drop 4)) = true then some (bodyC (t.drop 4)).1 else none) else none

theorem take_app (k : Nat) (a r : List UInt8) (b : Bool) (h : a.length = k) : takeC ⟨a ++ r, b⟩ k = (a, true, ⟨r, b⟩) := by
  unfold takeC
  rw [if_neg (by simp; omega)]
  subst h
  simp
theorem num_app (k n : Nat) (r : List UInt8) (h : n < 256 ^ k) (h2 : n < 9223372036854775808) : numV ⟨beL k n ++ r, false⟩ k = n ∧ numS ⟨beL k n ++ r, false⟩ k = ⟨r, false⟩ := by
  unfold numV numS
  rw [take_app k (beL k n) r false (beL_length k n)]
  simp only
  rw [getN_beL k n h h2]
  exact ⟨rfl, rfl⟩
theorem file_app (f : Fl) (hf : May f) (hw : f.wf) (r : List UInt8) : fileV ⟨flB f ++ r, false⟩ = f ∧ fileS ⟨flB f ++ r, false⟩ = ⟨r, false⟩ := by
  obtain ⟨_, hl, s0, s1, c0, c1⟩ := hf
  obtain ⟨w0, w1⟩ := hw
  have e1 := num_app 1 f.name.size (f.name.data.toList ++ (beL 1 f.size.toNat ++ (beL 8 f.count.toNat ++ (beL 4 f.sum.toNat ++ r)))) (by omega) (by omega)
  have e2 := take_app f.name.size f.name.data.toList (beL 1 f.size.toNat ++ (beL 8 f.count.toNat ++ (beL 4 f.sum.toNat ++ r))) false (by rw [Array.length_toList]; rfl)
  have e3 := num_app 1 f.size.toNat (beL 8 f.count.toNat ++ (beL 4 f.sum.toNat ++ r)) (by omega) (by omega)
  have e4 := num_app 8 f.count.toNat (beL 4 f.sum.toNat ++ r) (by omega) (by omega)
  have e5 := num_app 4 f.sum.toNat r (by omega) (by omega)
  have e : flB f ++ r = beL 1 f.name.size ++ (f.name.data.toList ++ (beL 1 f.size.toNat ++ (beL 8 f.count.toNat ++ (beL 4 f.sum.toNat ++ r)))) := by simp [flB]
  have et : textS ⟨f.name.data.toList ++ (beL 1 f.size.toNat ++ (beL 8 f.count.toNat ++ (beL 4 f.sum.toNat ++ r))), false⟩ f.name.size = ⟨beL 1 f.size.toNat ++ (beL 8 f.count.toNat ++ (beL 4 f.sum.toNat ++ r)), false⟩ := by
    unfold textS
    rw [e2]
    rfl
  unfold fileV fileS
  simp only [e, e1.1, e1.2, et, e2, e3.1, e3.2, e4.1, e4.2, e5.1, e5.2]
  refine ⟨?_, trivial⟩
  cases f
  simp only [Fl.mk.injEq]
  simp only at s0 c0 w0
  refine ⟨?_, by omega, by omega, by omega⟩
  first
    | trivial
    | rfl
theorem files_app (fs : List Fl) (h : ∀ f ∈ fs, May f ∧ f.wf) (gs : List Fl) (r : List UInt8) : filesC fs.length ⟨fs.flatMap flB ++ r, false⟩ gs = (gs ++ fs, ⟨r, false⟩) := by
  induction fs generalizing gs with
  | nil => simp [filesC]
  | cons f fs ih =>
    have e := file_app f (h f List.mem_cons_self).1 (h f List.mem_cons_self).2 (fs.flatMap flB ++ r)
    have e2 : (f :: fs).flatMap flB ++ r = flB f ++ (fs.flatMap flB ++ r) := by simp
    simp only [List.length_cons, filesC, e2, e.1, e.2]
    rw [if_neg (by simp), ih (fun g hg => h g (List.mem_cons_of_mem _ hg))]
    simp
/-- A manifest comes back from its bytes. -/
theorem get_put (m : Mf) (h : rightB m = true) (hw : m.wf) : getM (closeL (manB m)) = some m := by
  have hh := head_of (right_head h)
  obtain ⟨s0, s1, p0, p1, few⟩ := hh
  unfold getM
  rw [open_close]
  have e0 : (manB m).drop 4 = beL 2 m.stage.toNat ++ (beL 2 m.pass.toNat ++ (beL 1 m.files.length ++ m.files.flatMap flB)) := rfl
  have ep : magic.isPrefixOf (manB m) = true := by
    rw [List.isPrefixOf_iff_prefix]
    exact List.prefix_append _ _
  have e1 := num_app 2 m.stage.toNat (beL 2 m.pass.toNat ++ (beL 1 m.files.length ++ m.files.flatMap flB)) (by omega) (by omega)
  have e2 := num_app 2 m.pass.toNat (beL 1 m.files.length ++ m.files.flatMap flB) (by omega) (by omega)
  have e3 := num_app 1 m.files.length (m.files.flatMap flB) (by omega) (by omega)
  have e4 := files_app m.files (fun f hf => ⟨may_of (right_at h hf), hw f hf⟩) [] []
  simp only [List.append_nil, List.nil_append] at e4
  have e5 : bodyC ((manB m).drop 4) = (m, ⟨[], false⟩) := by
    unfold bodyC
    rw [e0]
    simp only [e1.1, e1.2, e2.1, e2.2, e3.1, e3.2, e4]
    cases m
    simp only at s0 p0
    simp
    omega
  simp only [ep, if_true, e5]
  simp [okC, h]
theorem flB_length (f : Fl) : (flB f).length = f.name.size + 14 := by
  simp [flB, beL_length]
  omega
end Go.Proofs.Ytdmmfeglnmkmdaa.Plain
