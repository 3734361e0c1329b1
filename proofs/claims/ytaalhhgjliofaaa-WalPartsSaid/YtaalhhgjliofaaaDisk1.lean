/- Contracts of the program's disk (silo/disk): where a file lies. -/
import Derived.Test.YtaalhhgjliofaaaPDisk
import Derived.Test.YtaalhhgjliofaaaProg
import Derived.Lib.Hide
set_option linter.unusedVariables false
set_option linter.unusedSimpArgs false
set_option maxRecDepth 100000
namespace Go.Proofs.Ytaalhhgjliofaaa
open Go.RowKit Go.Shelf

theorem isNaN_any (s : ByteArray) (w : World) : Calls Try.prog 55 #[.string s] w fun e w' => e = .returned (.bool false) ∧ w = w' := by
  have h : (s.toList == s.toList) = true := by simp
  go_enter Try.func55, Try.ntmps55
  go_wp2_with fail
  go_ret
  simp

theorem binOp_string_gtr (t : TypeId) (a b : ByteArray) : binOp .gtr t (.string a) (.string b) = pure (.bool !(Op.bytesLess a.toList b.toList || a.toList == b.toList)) := by simp [binOp, Op.stringOp]
attribute [local go_sem] binOp_string_gtr
theorem bt_toList (l : List UInt8) : (bt l).toList = l := by rw [Go.ByteArray.toList_eq]; rfl

theorem cmp_any (x y : List UInt8) (w : World) : Calls Try.prog 44 #[.string (bt x), .string (bt y)] w fun e w' => e = .returned (.int .i64 (cmpL x y)) ∧ w = w' := by
  have ex := bt_toList x
  have ey := bt_toList y
  go_enter Try.func44, Try.ntmps44
  go_wp2_with fail
  refine (isNaN_any _ _).mono ?_
  rintro e w' ⟨rfl, rfl⟩
  go_wp2_with fail
  refine (isNaN_any _ _).mono ?_
  rintro e w' ⟨rfl, rfl⟩
  cases hl : Op.bytesLess x y with
  | true =>
    go_wp2_with fail
    go_ret
    simp [cmpL, hl]
  | false =>
    cases he : x == y with
    | true =>
      go_wp2_with fail
      go_ret
      simp [cmpL, hl, he]
    | false =>
      go_wp2_with fail
      go_ret
      simp [cmpL, hl, he]

/-- The cells of the k-th file of a list. -/
theorem file_at {w : World} {S : Nat → Prop} {A : Option Addr} {n c k : Nat} {fs : List FileM} (hf : Lst fileR w S (.slice A n c) fs) (hS : ∀ k, S k → k < w.heap.size) (hk : k < fs.length) :
    ∃ ad f v, A = some ad ∧ ad.block < w.heap.size ∧ fs[k]? = some f ∧ Lst opR w S v f.ops ∧ ∀ w', Below w.heap.size w w' → w'.cell? (ad.add (k * 3)) = some (strV f.name) ∧ w'.cell? ⟨(ad.add (k * 3)).block, (ad.add (k * 3)).off + 1, none⟩ = some (strV f.data) ∧ w'.cell? ⟨(ad.add (k * 3)).block, (ad.add (k * 3)).off + 2, none⟩ = some v := by
  obtain ⟨ad, cs, rfl, hs, hrd, hc⟩ := hf.at_ (List.getElem?_eq_getElem hk)
  obtain ⟨v, rfl, ho⟩ := fileR_rd.1 hrd
  have hlt := hS _ hs
  refine ⟨ad, _, v, rfl, hlt, List.getElem?_eq_getElem hk, ho, fun w' hb => ?_⟩
  have hcell : ∀ j u, [strV fs[k].name, strV fs[k].data, v][j]? = some u → w'.cell? (ad.add (k * 3 + j)) = some u :=
    fun j u hu => (hb.cell (by rw [block_add]; exact hlt)).trans (hc j u hu)
  refine ⟨hcell 0 _ rfl, ?_, ?_⟩
  · rw [← add_succ ad (k * 3) 0]; exact hcell 1 _ rfl
  · rw [← add_succ ad (k * 3) 1]; exact hcell 2 _ rfl

/-- One file, by value. -/
theorem at1_any (f : FileM) (v : Value) (t : List UInt8) (w : World) :
    Calls Try.prog 43 #[.agg #[strV f.name, strV f.data, v], strV t] w fun e w' => e = .returned (.int .i64 (cmpL f.name t)) ∧ Below w.heap.size w w' := by
  go_enter Try.func43, Try.ntmps43
  go_wp2_with fail
  refine (cmp_any _ _ _).mono ?_
  rintro e w' ⟨rfl, rfl⟩
  go_wp2_with fail
  go_ret
  exact ⟨rfl, (Below.refl _ w).alloc (Nat.le_refl _) _⟩

theorem search_any (S : Nat → Prop) (fv : Value) (fs : List FileM) (t : List UInt8) (w : World) (hf : Lst fileR w S fv fs) (hS : ∀ k, S k → k < w.heap.size) (hlen : fs.length ≤ 1000000) :
    Calls Try.prog 42 #[fv, strV t, .func (.func 43) #[] #[]] w fun e w' =>
      e = .returned (.tuple #[.int .i64 (bsL (fs.map (·.name)) t).1, .bool (bsL (fs.map (·.name)) t).2]) ∧ Below w.heap.size w w' := by
  obtain ⟨A, n, c, rfl, hn, hnc, hcm⟩ := hf.form
  have HF := Lib.hid hf
  have HN := Lib.hid hn
  have hlen : n ≤ 1000000 := by omega
  clear hf hn
  go_enter Try.func42, Try.ntmps42
  go_wp2_with fail
  go_loopw [9, 10] (fun vi vj wr => ∃ i j f, vi = .int .i64 (i : Nat) ∧ vj = .int .i64 (j : Nat) ∧ i ≤ j ∧ j ≤ n ∧ j - i ≤ f ∧ bsF (fs.map (·.name)) t f i j = bsF (fs.map (·.name)) t n 0 n ∧ Below w.heap.size w wr) (fun vi vj _ => (intOf vj - intOf vi).toNat)
  case atStart => exact ⟨0, n, n, rfl, rfl, Nat.zero_le _, Nat.le_refl _, by omega, rfl, Below.refl _ _⟩
  case round =>
    obtain ⟨i, j, f, rfl, rfl, hij, hjn, hf, hbs, hb⟩ := hrel
    by_cases hlt : i < j
    · obtain ⟨ad, x, v, hA, hadlt, hx, -, hcells⟩ := file_at (k := (i + j) / 2) HF.out hS (by have := HN.out; omega)
      subst hA
      obtain ⟨h0, h1, h2⟩ := hcells wr hb
      have HX := Lib.hid hx
      have HB := Lib.hid hbs
      have hd : decide ((i : Int) < (j : Int)) = true := decide_eq_true (by omega)
      have hneg := cmpL_neg x.name t
      have hfp : 0 < f := by omega
      obtain ⟨f, rfl⟩ : ∃ g, f = g + 1 := ⟨f - 1, by omega⟩
      have hnm : ((fs.map (·.name))[(i + j) / 2]?.getD []) = x.name := by simp [hx]
      have hstep := hbs
      rw [bsF, if_pos hlt, hnm] at hstep
      clear hx hbs hcells hfp hnm
      have HST := Lib.hid hstep
      clear hstep
      cases hl : Op.bytesLess x.name t with
      | true =>
        rw [hl] at hneg
        go_wp2_with fail
        refine (at1_any x v t wr).mono ?_
        rintro e w1 ⟨rfl, hb1⟩
        go_wp2_with fail
        go_roundw
        case rel =>
          have hst := HST.out
          rw [if_pos hl] at hst
          exact ⟨(i + j) / 2 + 1, j, f, by go_num, rfl, by omega, hjn, by omega, hst, hb.trans (hb1.mono hb.size)⟩
        case measure => simp [intOf]; omega
      | false =>
        rw [hl] at hneg
        go_wp2_with fail
        refine (at1_any x v t wr).mono ?_
        rintro e w1 ⟨rfl, hb1⟩
        go_wp2_with fail
        go_roundw
        case rel =>
          have hst := HST.out
          rw [if_neg (by simp [hl])] at hst
          exact ⟨i, (i + j) / 2, f, rfl, by go_num, by omega, by omega, by omega, hst, hb.trans (hb1.mono hb.size)⟩
        case measure => simp [intOf]; omega
    · have hd : decide ((i : Int) < (j : Int)) = false := decide_eq_false (by omega)
      rw [bsF_stop hlt] at hbs
      have hnames : (fs.map (·.name)).length = n := by rw [List.length_map]; exact HN.out.symm
      have hres : bsL (fs.map (·.name)) t = (i, decide (i < n) && decide ((fs.map (·.name))[i]? = some t)) := by
        unfold bsL; rw [hnames, ← hbs]
      have HR := Lib.hid hres
      clear hbs hres hnames
      by_cases hin : i < n
      · obtain ⟨ad, x, v, hA, hadlt, hx, -, hcells⟩ := file_at (k := i) HF.out hS (by have := HN.out; omega)
        subst hA
        obtain ⟨h0, h1, h2⟩ := hcells wr hb
        have HX := Lib.hid hx
        clear hx hcells
        have hd2 : decide ((i : Int) < (n : Int)) = true := decide_eq_true (by omega)
        have hz := cmpL_zero x.name t
        go_wp2_with fail
        refine (at1_any x v t wr).mono ?_
        rintro e w1 ⟨rfl, hb1⟩
        go_wp2_with fail
        go_ret2
        refine ⟨?_, hb.trans (hb1.mono hb.size)⟩
        rw [HR.out]
        have hx := HX.out
        have e2 : decide ((fs.map (·.name))[i]? = some t) = decide (x.name = t) := by simp [hx]
        rw [e2]
        simp [hin]
      · have hd2 : decide ((i : Int) < (n : Int)) = false := decide_eq_false (by omega)
        go_wp2_with fail
        go_ret2
        refine ⟨?_, hb⟩
        rw [HR.out]
        simp [hin]

/-- A machine's block. -/
abbrev Mach (W : World) (b : Nat) (fv : Value) (off : Bool) (fuse : Int) : Prop := W.heap[b]? = some (.cells #[fv, .bool off, .int .i64 fuse] 64)

theorem at_any (S : Nat → Prop) (b : Nat) (fv : Value) (off : Bool) (fuse : Int) (fs : List FileM) (t : List UInt8) (w : World) (hm : Mach w b fv off fuse) (hf : Lst fileR w S fv fs) (hS : ∀ k, S k → k < w.heap.size) (hlen : fs.length ≤ 1000000) :
    Calls Try.prog 26 #[.pointer (some ⟨b, 0, none⟩), strV t] w fun e w' =>
      e = .returned (.tuple #[.int .i64 (bsL (fs.map (·.name)) t).1, .bool (bsL (fs.map (·.name)) t).2]) ∧ Below w.heap.size w w' := by
  have h0 : w.cell? ⟨b, 0, none⟩ = some fv := cell_of_row w b 0 _ _ (0, 0) hm
  go_enter Try.func26, Try.ntmps26
  go_wp2_with fail
  refine (search_any S fv fs t w hf hS hlen).mono ?_
  rintro e w1 ⟨rfl, hb1⟩
  go_wp2_with fail
  go_ret2
  exact ⟨rfl, hb1⟩

end Go.Proofs.Ytaalhhgjliofaaa
