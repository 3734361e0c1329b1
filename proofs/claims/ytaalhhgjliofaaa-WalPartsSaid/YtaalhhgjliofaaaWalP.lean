/- What the program's log does with disks of one file, and the laws' awake. -/
import Derived.Test.YtaalhhgjliofaaaAppend
import Derived.Test.YtaalhhgjliofaaaCrash
set_option linter.unusedVariables false
set_option linter.unusedSimpArgs false
set_option maxRecDepth 100000
namespace Go.Proofs.Ytaalhhgjliofaaa
open Go.RowKit Go.Shelf

theorem logOk_one (s : List UInt8) (ops : List (Nat × List UInt8)) (off : Bool) (fuse : Int) (hs : s.length ≤ 100000) (ho : ops.length ≤ 3) (hb : ∀ o ∈ ops, o.1 + o.2.length ≤ 190000) (hf : -1 ≤ fuse ∧ fuse ≤ 1048576) : LogOk ⟨[⟨logN, s, ops⟩], off, fuse⟩ logN := {
  len := by simp
  few := by
    intro f hf
    simp only [List.mem_cons, List.not_mem_nil, or_false] at hf
    subst hf
    exact ⟨by simp only; omega, by simp only; omega, fun o ho => by have := hb o ho; omega⟩
  fuse := hf
  pos := .inl (by rw [find_one])
  ops := by unfold DiskM.fileOr; rw [find_one]; simp; omega
  txt := by
    rw [read_one]
    have : ∀ (ops : List (Nat × List UInt8)) (s : List UInt8), (∀ o ∈ ops, o.1 + o.2.length ≤ 190000) → s.length ≤ 190000 → (seenL s ops).length ≤ 190000 := by
      intro ops
      induction ops with
      | nil => intro s _ h; exact h
      | cons o ops ih =>
        intro s ho hs
        refine ih _ (fun x hx => ho x (List.mem_cons_of_mem _ hx)) ?_
        rw [layL_length]
        have := ho o (by simp)
        omega
    have := this ops s hb (by omega)
    simp only
    omega }
theorem logOk_none (off : Bool) (fuse : Int) (hf : -1 ≤ fuse ∧ fuse ≤ 1048576) : LogOk ⟨[], off, fuse⟩ logN := {
  len := by simp
  few := by intro f hf; cases hf
  fuse := hf
  pos := .inr rfl
  ops := by unfold DiskM.fileOr; rw [find_none]; simp
  txt := by simp [DiskM.read, find_none] }
theorem logOk_of (o : Option (List UInt8)) (fuse : Int) (ho : (textOf o).length ≤ 100000) (hf : -1 ≤ fuse ∧ fuse ≤ 1048576) : LogOk (diskOf o fuse) logN := by
  cases o with
  | none => exact logOk_none _ _ hf
  | some s => exact logOk_one s [] false fuse ho (by simp) (fun o h => by cases h) hf
/-- .. behind a write at the log's end. -/
theorem logOk_written (o : Option (List UInt8)) (fuse : Int) (w : List UInt8) (ho : (textOf o).length ≤ 100000) (hw : w.length ≤ 65536) (hf : -1 ≤ fuse ∧ fuse ≤ 1048576) : LogOk ((diskOf o fuse).write logN (textOf o).length w).1 logN := by
  by_cases h0 : w = []
  · subst h0
    unfold DiskM.write
    have h1 : (diskOf o fuse).writeWrong logN (textOf o).length [] = 0 := by
      unfold DiskM.writeWrong
      rw [if_neg (by decide), if_neg (by simp; omega), if_neg]
      cases o with
      | none => unfold DiskM.fileOr diskOf; rw [find_none]; simp
      | some s => unfold DiskM.fileOr diskOf; rw [find_one]; simp
    have h2 : setF (diskOf o fuse).files (moreOps ((diskOf o fuse).fileOr logN) (textOf o).length []) = [⟨logN, textOf o, []⟩] := by
      cases o with
      | none => unfold DiskM.fileOr diskOf; rw [find_none]; simp [moreOps, setF_none, textOf]
      | some s => unfold DiskM.fileOr diskOf; rw [find_one]; simp [moreOps, setF_one, textOf]
    rw [h1, h2]
    unfold actD
    rw [if_neg (by simp [diskOf]), if_neg (by simp)]
    split
    · next h => exact (show LogOk ⟨(diskOf o fuse).files, true, -1⟩ logN by
        cases o with
        | none => exact logOk_none _ _ (by omega)
        | some s => exact logOk_one s [] _ _ ho (by simp) (fun o h => by cases h) (by omega))
    · exact logOk_one _ [] _ _ ho (by simp) (fun o h => by cases h) (by
        have hfu : (diskOf o fuse).fuse = fuse := rfl
        rw [hfu]; split <;> omega)
  · rw [write_of o fuse w h0 (by omega)]
    unfold actD
    rw [if_neg (by simp [diskOf]), if_neg (by simp)]
    split
    · next h => exact (show LogOk ⟨(diskOf o fuse).files, true, -1⟩ logN by
        cases o with
        | none => exact logOk_none _ _ (by omega)
        | some s => exact logOk_one s [] _ _ ho (by simp) (fun o h => by cases h) (by omega))
    · exact logOk_one _ [_] _ _ ho (by simp) (fun x h => by rw [List.mem_singleton.1 h]; simp only; omega) (by
        have hfu : (diskOf o fuse).fuse = fuse := rfl
        rw [hfu]; split <;> omega)

/-- Append at a log of few frames, the power stays. -/
theorem append_few (S Sl : Nat → Prop) (fv lv : Value) (o : Option (List UInt8)) (ls l : List (List UInt8)) (w : World) (ho : textOf o = wraps ls) (h1 : Light ls) (h2 : Light l) (hf : Lst fileR w S fv (diskOf o (-1)).files) (hS : ∀ k, S k → k < w.heap.size) (hl : Lst strR w Sl lv l) (hSl : ∀ k, Sl k → k < w.heap.size) :
    Calls Try.prog 6 #[.agg #[fv, .bool false, .int .i64 (-1)], lv] w fun e w' => ∃ A n c S', e = .returned (.tuple #[.agg #[.slice A n c, .bool false, .int .i64 (-1)], .int .i64 0]) ∧ Lst fileR w' S' (.slice A n c) (diskOf (moreLog o l) (-1)).files ∧ (∀ k, S' k → k < w'.heap.size ∧ (S k ∨ w.heap.size ≤ k)) ∧ Below w.heap.size w w' := by
  have hlen := wraps_short ls h1.2
  have hlen2 := wraps_short l h2.2
  have h3 := h1.1
  have h4 := h2.1
  have hs := scan_wraps (ls := ls) (fun t ht => by have := h1.2 t ht; omega)
  refine (append_any S Sl fv lv (diskOf o (-1)) l w hf hS hl hSl (by omega) (fun x hx => by have := h2.2 x hx; omega) (logOk_of o _ (by rw [ho]; omega) (by omega)) ?_).mono ?_
  case refine_2 =>
    rintro e w' ⟨v, S', rfl, ⟨fv2, rfl, hl2⟩, h5, h6⟩
    rw [append_of ho h1 h2] at hl2 ⊢
    obtain ⟨A, n, c, rfl, -⟩ := hl2.form
    exact ⟨A, n, c, S', rfl, hl2, h5, h6⟩
  intro t ht _
  have ht2 := gather_len l [] t (by simp) ht
  rw [log_of, ho, hs.2, ← ho]
  exact logOk_written o (-1) t (by rw [ho]; omega) ht2 (by omega)
/-- Load at a log of few frames. -/
theorem load_few (S : Nat → Prop) (fv : Value) (o : Option (List UInt8)) (ls : List (List UInt8)) (w : World) (ho : textOf o = wraps ls) (h1 : Light ls) (hf : Lst fileR w S fv (diskOf o (-1)).files) (hS : ∀ k, S k → k < w.heap.size) :
    Calls Try.prog 9 #[.agg #[fv, .bool false, .int .i64 (-1)]] w fun e w' => ∃ v, e = .returned v ∧ Lst strR w' (fun k => v.ownBlock = some k) v ls ∧ (∀ k, v.ownBlock = some k → w.heap.size ≤ k ∧ k < w'.heap.size) ∧ Below w.heap.size w w' := by
  have hlen := wraps_short ls h1.2
  have h3 := h1.1
  have h := load_any S fv (diskOf o (-1)) w hf hS (logOk_of o _ (by rw [ho]; omega) (by omega))
  rw [load_of (-1) ho h1.2] at h
  exact h

/-- A list of texts in a new block. -/
theorem strs_new {w : World} (ls : List (List UInt8)) (hl : ls.length ≤ 1000) : Lst strR (w.alloc (.cells (ls.map strV).toArray 9)) (fun k => k = w.heap.size) (.slice (some ⟨w.heap.size, 0, none⟩) ls.length ls.length) ls := by
  refine ⟨_, _, ls.map strV, rfl, Nat.le_refl _, by unfold maxLen; omega, ?_, fun _ => ⟨_, rfl, rfl, fun j u hu => ?_⟩⟩
  · rw [show strR = Rep.flat 1 (fun x => [strV x]) (fun _ => rfl) (fun x u hu => by simp at hu; subst hu; rfl) from rfl, chunks_flat]
    induction ls with
    | nil => rfl
    | cons x ls ih => rw [List.map_cons, List.flatMap_cons, ← ih (by simp at hl; omega)]; rfl
  · have hadd : (⟨w.heap.size, 0, none⟩ : Addr).add j = ⟨w.heap.size, j, none⟩ := by unfold Addr.add; split <;> simp_all
    rw [hadd, cell_of_row _ _ j _ _ (0, 0) (heap_new rfl _)]
    simpa using hu

set_option maxHeartbeats 1000000 in
theorem awake16_any (w : World) : Calls Try.prog 5 #[] w fun e w' => e = .returned (.bool true) ∧ Below w.heap.size w w' := by
  have hL : Light [[97], [98]] := ⟨by decide, by decide⟩
  have hE : Light [] := ⟨by decide, by simp⟩
  have HN := Lib.hid (strs_new (w := w) [[97], [98]] (by simp))
  have HAP := Lib.hid (append_few (fun _ => False) _ (.slice none 0 0) _ none [] [[97], [98]] _ rfl hE hL (Lst.nil _ _ _) (fun k h => h.elim) HN.out (fun k h => by simp; omega))
  go_enter Try.func5, Try.ntmps5
  go_wp2_with fail
  refine HAP.out.mono ?_
  rintro e w1 ⟨A3, n3, c3, S', rfl, hl1, hS1, hb1⟩
  have hz1 := hb1.size
  have HB0 := Lib.hid (((Below.refl _ w).alloc (Nat.le_refl _) (.cells #[.string ⟨#[97]⟩, .string ⟨#[98]⟩] 9)).trans (hb1.mono (by simp)))
  have hwz := HB0.out.size
  obtain ⟨w2, hw2⟩ : ∃ w2, w1.alloc (.cells #[.slice A3 n3 c3, .bool false, .int .i64 (-1)] 28) = w2 := ⟨_, rfl⟩
  have hb2 : Below w1.heap.size w1 w2 := by rw [← hw2]; exact (Below.refl _ w1).alloc (Nat.le_refl _) _
  have hz2 : w2.heap.size = w1.heap.size + 1 := by rw [← hw2]; simp
  have hd2 : w2.heap[w1.heap.size]? = some (.cells #[.slice A3 n3 c3, .bool false, .int .i64 (-1)] 28 (0, 0)) := by rw [← hw2]; exact heap_new rfl _
  have c0 : w2.cell? ⟨w1.heap.size, 0, none⟩ = some (.slice A3 n3 c3) := cell_of_row w2 _ 0 _ _ _ hd2
  have c1 : w2.cell? ⟨w1.heap.size, 1, none⟩ = some (.bool false) := cell_of_row w2 _ 1 _ _ _ hd2
  have c2 : w2.cell? ⟨w1.heap.size, 2, none⟩ = some (.int .i64 (-1)) := cell_of_row w2 _ 2 _ _ _ hd2
  have HLD := Lib.hid (load_few S' _ _ [[97], [98]] w2 (by rw [moreLog_text]; exact rfl) hL (hl1.keep (fun k hk => hb2.block k (hS1 k hk).1)) (fun k hk => by have := (hS1 k hk).1; omega))
  have HW2 := Lib.hid hw2
  clear hw2 hl1 hS1
  go_wp2_with fail
  rw [HW2.out]
  refine HLD.out.mono ?_
  rintro e w3 ⟨v, rfl, hl3, hlt3, hb3⟩
  have hz3 := hb3.size
  have HSM := Lib.hid (same3_any _ _ v _ _ _ (w3.alloc (.cells #[.string ⟨#[97]⟩, .string ⟨#[98]⟩] 9)) (hl3.keep (fun k hk => Below.heap_alloc _ _ _ (hlt3 k hk).2)) (strs_new (w := w3) [[97], [98]] (by simp)) (fun k hk => by have := (hlt3 k hk).2; simp; omega) (fun k hk => by simp; omega))
  have HB := Lib.hid (((HB0.out.trans (hb2.mono hwz)).trans (hb3.mono (by omega))).alloc (by omega) (.cells #[.string ⟨#[97]⟩, .string ⟨#[98]⟩] 9))
  obtain ⟨A4, n4, c4, rfl, -⟩ := hl3.form
  clear hl3 hlt3
  go_wp2_with fail
  refine HSM.out.mono ?_
  rintro e w4 ⟨rfl, nq, rfl⟩
  go_wp2_with fail
  go_ret
  exact ⟨rfl, below_drewN HB.out _⟩

end Go.Proofs.Ytaalhhgjliofaaa
