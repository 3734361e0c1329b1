/- Plain facts about logs on disks: records that are written are there, and last. -/
import Derived.Test.YtaalhhgjliofaaaPDisk
import Derived.Test.YtaalhhgjliofaaaPBack
set_option linter.unusedVariables false
set_option linter.unusedSimpArgs false
set_option maxRecDepth 100000
namespace Go.Proofs.Ytaalhhgjliofaaa

/-- A file of a name, an empty one where there is none. -/
def DiskM.fileOr (d : DiskM) (t : List UInt8) : FileM := if (d.find t).2 then (d.files[(d.find t).1]?).getD ⟨t, [], []⟩ else ⟨t, [], []⟩
def DiskM.writeWrong (d : DiskM) (t : List UInt8) (k : Nat) (s : List UInt8) : Nat :=
  if nameB t = false then 7 else if 262144 < k ∨ 262144 - k < s.length then 4 else if ((d.find t).2 = false ∧ 8 ≤ d.files.length) ∨ (s ≠ [] ∧ 200 ≤ (d.fileOr t).ops.length) then 9 else 0
def moreOps (f : FileM) (k : Nat) (s : List UInt8) : FileM := ⟨f.name, f.data, if s = [] then f.ops else f.ops ++ [(k, s)]⟩
def DiskM.write (d : DiskM) (t : List UInt8) (k : Nat) (s : List UInt8) : DiskM × Nat := actD d (d.writeWrong t k s) (setF d.files (moreOps (d.fileOr t) k s))
def DiskM.sync (d : DiskM) (t : List UInt8) : DiskM × Nat := actD d (noneE (d.find t).2) (setF d.files ⟨t, (d.read t).1, []⟩)
def logN : List UInt8 := [108, 111, 103]
def newN : List UInt8 := [108, 111, 103, 46, 110, 101, 119]
/-- All frames in one text; none: it can't be. -/
def gather : List UInt8 → List (List UInt8) → Option (List UInt8)
  | acc, [] => some acc
  | acc, t :: l => if wrapL t = [] ∨ 65536 < (acc ++ wrapL t).length then none else gather (acc ++ wrapL t) l
def DiskM.log (d : DiskM) : List UInt8 := (d.read logN).1
def DiskM.append (d : DiskM) (l : List (List UInt8)) : DiskM × Nat :=
  if scanN d.log < d.log.length then (d, 2) else match gather [] l with
  | none => (d, 4)
  | some w => if w = [] then (d, 0) else if (d.write logN (scanN d.log) w).2 ≠ 0 then d.write logN (scanN d.log) w else (d.write logN (scanN d.log) w).1.sync logN
/-- What is left of writes behind a crash. -/
def keptOps : List UInt8 → List (Nat × List UInt8) → List Bool → List UInt8
  | s, [], _ => s
  | s, o :: os, keep => keptOps (if keep.headD false then layL s o.1 o.2 else s) os keep.tail
def crashFs : List FileM → List Bool → List FileM
  | [], _ => []
  | f :: fs, keep => ⟨f.name, keptOps f.data f.ops keep, []⟩ :: crashFs fs (keep.drop f.ops.length)
def DiskM.crash (d : DiskM) (keep : List Bool) : DiskM := ⟨crashFs d.files keep, false, -1⟩

/-- A disk with a log's file alone, or with none. -/
def diskOf (o : Option (List UInt8)) (fuse : Int) : DiskM := ⟨match o with | none => [] | some s => [⟨logN, s, []⟩], false, fuse⟩
def textOf (o : Option (List UInt8)) : List UInt8 := o.getD []
theorem find_none (off : Bool) (fuse : Int) : (⟨[], off, fuse⟩ : DiskM).find logN = (0, false) := rfl
theorem bs_one : bsL [logN] logN = (0, true) := by decide
theorem find_one (s : List UInt8) (ops : List (Nat × List UInt8)) (off : Bool) (fuse : Int) : (⟨[⟨logN, s, ops⟩], off, fuse⟩ : DiskM).find logN = (0, true) := bs_one
theorem read_one (s : List UInt8) (ops : List (Nat × List UInt8)) (off : Bool) (fuse : Int) : (⟨[⟨logN, s, ops⟩], off, fuse⟩ : DiskM).read logN = (seenL s ops, true) := by
  unfold DiskM.read; rw [find_one]; rfl
theorem log_of (o : Option (List UInt8)) (fuse : Int) : (diskOf o fuse).log = textOf o := by
  cases o with
  | none => rfl
  | some s => unfold DiskM.log diskOf; rw [read_one]; rfl
theorem setF_none (f : FileM) : setF [] f = [f] := by
  unfold setF; rw [if_neg (by simp [bsL, bsF])]; rfl
theorem setF_one (s t : List UInt8) (ops ops' : List (Nat × List UInt8)) : setF [⟨logN, s, ops⟩] ⟨logN, t, ops'⟩ = [⟨logN, t, ops'⟩] := by
  unfold setF; rw [show bsL (List.map (fun x : FileM => x.name) [⟨logN, s, ops⟩]) logN = (0, true) from bs_one]; rfl
theorem write_of (o : Option (List UInt8)) (fuse : Int) (w : List UInt8) (hw : w ≠ []) (hl : (textOf o).length + w.length ≤ 262144) :
    (diskOf o fuse).write logN (textOf o).length w = actD (diskOf o fuse) 0 [⟨logN, textOf o, [((textOf o).length, w)]⟩] := by
  have h1 : (diskOf o fuse).writeWrong logN (textOf o).length w = 0 := by
    unfold DiskM.writeWrong
    rw [if_neg (by decide), if_neg (by omega), if_neg]
    cases o with
    | none => unfold DiskM.fileOr diskOf; rw [find_none]; simp
    | some s => unfold DiskM.fileOr diskOf; rw [find_one]; simp
  unfold DiskM.write
  rw [h1]
  congr 1
  cases o with
  | none => unfold DiskM.fileOr diskOf; rw [find_none]; simp [moreOps, hw, setF_none, textOf]
  | some s => unfold DiskM.fileOr diskOf; rw [find_one]; simp [moreOps, hw, setF_one, textOf]
theorem sync_one (s : List UInt8) (ops : List (Nat × List UInt8)) (off : Bool) (fuse : Int) : (⟨[⟨logN, s, ops⟩], off, fuse⟩ : DiskM).sync logN = actD ⟨[⟨logN, s, ops⟩], off, fuse⟩ 0 [⟨logN, seenL s ops, []⟩] := by
  unfold DiskM.sync
  rw [find_one, read_one, setF_one]; rfl
def Light (l : List (List UInt8)) : Prop := l.length ≤ 40 ∧ ∀ t ∈ l, t.length ≤ 300
theorem putV_short {n : Nat} (h : n ≤ 300) : (putV n).length ≤ 2 := by
  unfold putV putF
  split
  · simp
  · rw [putF, if_pos (by omega)]; simp
theorem wrapL_short {t : List UInt8} (h : t.length ≤ 300) : (wrapL t).length ≤ 306 := by
  rw [wrapL_some (by omega), putText_some (by omega)]
  have := putV_short h
  simp only [List.length_append, crcBytes_length]
  omega
theorem wraps_short : ∀ (l : List (List UInt8)), (∀ t ∈ l, t.length ≤ 300) → (wraps l).length ≤ 306 * l.length := by
  intro l
  induction l with
  | nil => intro _; simp [wraps]
  | cons t l ih =>
    intro h
    rw [wraps_cons, List.length_append, List.length_cons]
    have := wrapL_short (h t (by simp))
    have := ih (fun x hx => h x (List.mem_cons_of_mem _ hx))
    omega
theorem gather_light : ∀ (l : List (List UInt8)) (acc : List UInt8), (∀ t ∈ l, t.length ≤ 300) → acc.length + 306 * l.length ≤ 65536 → gather acc l = some (acc ++ wraps l) := by
  intro l
  induction l with
  | nil => intro acc _ _; simp [gather, wraps]
  | cons t l ih =>
    intro acc h hl
    have h1 := h t (by simp)
    have := wrapL_short h1
    rw [List.length_cons] at hl
    rw [gather, if_neg (by
      rintro (h | h)
      · exact wrapL_ne (by omega) h
      · rw [List.length_append] at h; omega), ih _ (fun x hx => h x (List.mem_cons_of_mem _ hx)) (by rw [List.length_append]; omega), wraps_cons, List.append_assoc]
theorem wraps_nil_iff {l : List (List UInt8)} (h : ∀ t ∈ l, t.length ≤ 300) : wraps l = [] ↔ l = [] := by
  cases l with
  | nil => simp [wraps]
  | cons t l =>
    rw [wraps_cons]
    have := wrapL_ne (l := t) (by have := h t (by simp); omega)
    simp [this]
/-- The log's file behind records more. -/
def moreLog (o : Option (List UInt8)) (l : List (List UInt8)) : Option (List UInt8) := if l = [] then o else some (textOf o ++ wraps l)
/-- Records more, where the power stays. -/
theorem append_of {o : Option (List UInt8)} {ls l : List (List UInt8)} (ho : textOf o = wraps ls) (h1 : Light ls) (h2 : Light l) : (diskOf o (-1)).append l = (diskOf (moreLog o l) (-1), 0) := by
  have hs := scan_wraps (ls := ls) (fun t ht => by have := h1.2 t ht; omega)
  have hl := wraps_short ls h1.2
  have hl2 := wraps_short l h2.2
  have := h1.1
  have := h2.1
  unfold DiskM.append moreLog
  rw [log_of, ho, hs.2, if_neg (by omega), gather_light l [] h2.2 (by simp; omega)]
  simp only [List.nil_append]
  by_cases hn : l = []
  · rw [if_pos ((wraps_nil_iff h2.2).2 hn), if_pos hn]
  · have hw : wraps l ≠ [] := fun h => hn ((wraps_nil_iff h2.2).1 h)
    rw [if_neg hw, if_neg hn, ← ho, write_of o (-1) (wraps l) hw (by rw [ho]; omega)]
    have ha : actD (diskOf o (-1)) 0 [⟨logN, textOf o, [((textOf o).length, wraps l)]⟩] = (⟨[⟨logN, textOf o, [((textOf o).length, wraps l)]⟩], false, -1⟩, 0) := rfl
    rw [ha, if_neg (by simp), sync_one]
    unfold actD
    rw [if_neg (by simp), if_neg (by simp), if_neg (by simp)]
    unfold seenL
    simp [layL_end, diskOf]
theorem moreLog_text (o : Option (List UInt8)) (l : List (List UInt8)) : textOf (moreLog o l) = textOf o ++ wraps l := by
  unfold moreLog
  split
  · next h => subst h; simp [wraps]
  · rfl
theorem crash_of (o : Option (List UInt8)) (fuse : Int) (keep : List Bool) : (diskOf o fuse).crash keep = diskOf o (-1) := by
  cases o <;> rfl
theorem load_of {o : Option (List UInt8)} {ls : List (List UInt8)} (fuse : Int) (ho : textOf o = wraps ls) (h : ∀ t ∈ ls, t.length ≤ 300) : scanT (diskOf o fuse).log = ls := by
  rw [log_of, ho]
  exact (scan_wraps (fun t ht => by have := h t ht; omega)).1
end Go.Proofs.Ytaalhhgjliofaaa
