/- Plain words for disks: files, what was written and may be lost, what is seen. -/
import Derived.Test.YtaalhhgjliofaaaRow
set_option linter.unusedVariables false
set_option linter.unusedSimpArgs false
namespace Go.Proofs.Ytaalhhgjliofaaa

structure FileM where
  name : List UInt8
  data : List UInt8
  ops : List (Nat × List UInt8)
structure DiskM where
  files : List FileM
  off : Bool
  fuse : Int

def layL (s : List UInt8) (k : Nat) (t : List UInt8) : List UInt8 :=
  (s ++ List.replicate (k + t.length - s.length) 0).take k ++ t ++ (s ++ List.replicate (k + t.length - s.length) 0).drop (k + t.length)
def seenL (d : List UInt8) (ops : List (Nat × List UInt8)) : List UInt8 := ops.foldl (fun s o => layL s o.1 o.2) d
theorem layL_length (s : List UInt8) (k : Nat) (t : List UInt8) : (layL s k t).length = max s.length (k + t.length) := by
  unfold layL
  simp only [List.length_append, List.length_take, List.length_drop, List.length_replicate]
  omega
theorem layL_end (s t : List UInt8) : layL s s.length t = s ++ t := by
  unfold layL
  rw [show s.length + t.length - s.length = t.length by omega]
  rw [List.take_append_of_le_length (by omega), List.take_length, List.drop_eq_nil_of_le (by simp)]
  simp

def opV (o : Nat × List UInt8) : List Value := [.int .i64 o.1, strV o.2]
def opR : Rep (Nat × List UInt8) := Rep.flat 2 opV (fun _ => rfl) (fun x u hu => by
  simp [opV] at hu
  rcases hu with rfl | rfl <;> rfl)
def fileR : Rep FileM := (strR.pair (strR.pair opR.slice)).imap (fun f => (f.name, f.data, f.ops))
theorem fileR_rd {W : World} {S : Nat → Prop} {cs : List Value} {f : FileM} : fileR.rd W S cs f ↔ ∃ v, cs = [strV f.name, strV f.data, v] ∧ Lst opR W S v f.ops := by
  constructor
  · rintro ⟨a, b, rfl, rfl, c, d, rfl, rfl, v, rfl, h⟩
    exact ⟨v, rfl, h⟩
  · rintro ⟨v, rfl, h⟩
    exact ⟨[strV f.name], [strV f.data, v], rfl, rfl, [strV f.data], [v], rfl, rfl, v, rfl, h⟩
/-- A disk's value. -/
def DiskV (W : World) (S : Nat → Prop) (v : Value) (d : DiskM) : Prop := ∃ fv, v = .agg #[fv, .bool d.off, .int .i64 d.fuse] ∧ Lst fileR W S fv d.files

def cmpL (x y : List UInt8) : Int := if Op.bytesLess x y then -1 else if x == y then 0 else 1
/-- A search by halves, as the library does it. -/
def bsF (names : List (List UInt8)) (t : List UInt8) : Nat → Nat → Nat → Nat
  | 0, i, _ => i
  | f + 1, i, j => if i < j then (if Op.bytesLess (names[(i + j) / 2]?.getD []) t then bsF names t f ((i + j) / 2 + 1) j else bsF names t f i ((i + j) / 2)) else i
def bsL (names : List (List UInt8)) (t : List UInt8) : Nat × Bool :=
  (bsF names t names.length 0 names.length, decide (bsF names t names.length 0 names.length < names.length) && decide (names[bsF names t names.length 0 names.length]? = some t))
theorem seenL_snoc (d : List UInt8) (os : List (Nat × List UInt8)) (o : Nat × List UInt8) : seenL d (os ++ [o]) = layL (seenL d os) o.1 o.2 := by
  unfold seenL; rw [List.foldl_append]; rfl
theorem bsF_stop {names : List (List UInt8)} {t : List UInt8} {f i j : Nat} (h : ¬ i < j) : bsF names t f i j = i := by
  cases f with
  | zero => rfl
  | succ f => rw [bsF, if_neg h]
theorem bytesLess_irrefl : ∀ x : List UInt8, Op.bytesLess x x = false
  | [] => rfl
  | a :: x => by
    rw [Op.bytesLess, bytesLess_irrefl x]
    simp
theorem cmpL_neg (x y : List UInt8) : decide (cmpL x y < 0) = Op.bytesLess x y := by
  unfold cmpL
  cases h : Op.bytesLess x y with
  | true => simp
  | false => cases h2 : x == y <;> simp
theorem cmpL_zero (x y : List UInt8) : (cmpL x y == 0) = decide (x = y) := by
  unfold cmpL
  by_cases h2 : x = y
  · subst h2; simp [bytesLess_irrefl]
  · cases h : Op.bytesLess x y with
    | true => simp [h2]
    | false => simp [h2]
/-- Where a name is found, there it is. -/
theorem bsL_found {names : List (List UInt8)} {t : List UInt8} (h : (bsL names t).2 = true) : names[(bsL names t).1]? = some t := by
  unfold bsL at h ⊢
  simp only [Bool.and_eq_true, decide_eq_true_eq] at h
  exact h.2
def DiskM.find (d : DiskM) (t : List UInt8) : Nat × Bool := bsL (d.files.map (·.name)) t
/-- A file's bytes as they are seen, or none. -/
def DiskM.read (d : DiskM) (t : List UInt8) : List UInt8 × Bool :=
  if (d.find t).2 then (match d.files[(d.find t).1]? with | some f => (seenL f.data f.ops, true) | none => ([], true)) else ([], false)
theorem DiskM.found {d : DiskM} {t : List UInt8} (h : (d.find t).2 = true) : ∃ f, d.files[(d.find t).1]? = some f ∧ f.name = t := by
  have := bsL_found h
  rw [List.getElem?_map] at this
  exact Option.map_eq_some_iff.1 this
def hasBad (s : List UInt8) : Bool := s.any fun b => b == 0 || b == 47
def nameB (s : List UInt8) : Bool := decide (s ≠ []) && decide (s.length ≤ 31) && decide (s ≠ [46]) && decide (s ≠ [46, 46]) && !hasBad s
/-- A file in its place; or behind all others. -/
def setF (fs : List FileM) (f : FileM) : List FileM := if (bsL (fs.map (·.name)) f.name).2 then fs.set (bsL (fs.map (·.name)) f.name).1 f else fs ++ [f]
def noneE (ok : Bool) : Nat := bif ok then 0 else 5
/-- Something is done with a disk, if the power is there; fs: its files then. -/
def actD (d : DiskM) (wrong : Nat) (fs : List FileM) : DiskM × Nat :=
  if d.off then (d, 13) else if wrong ≠ 0 then (d, wrong) else if d.fuse = 0 then (⟨d.files, true, -1⟩, 13) else (⟨fs, d.off, if 0 < d.fuse then d.fuse - 1 else d.fuse⟩, 0)

end Go.Proofs.Ytaalhhgjliofaaa
