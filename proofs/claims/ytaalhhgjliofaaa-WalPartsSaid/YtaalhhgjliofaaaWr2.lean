/- The contract of the program's Write (silo/disk), the whole. -/
import Derived.Test.YtaalhhgjliofaaaWrite
set_option linter.unusedVariables false
set_option linter.unusedSimpArgs false
set_option maxRecDepth 100000
namespace Go.Proofs.Ytaalhhgjliofaaa
open Go.RowKit Go.Shelf

theorem heap_new {w : World} {n : Nat} (h : n = w.heap.size) (o : Obj) : (w.alloc o).heap[n]? = some o := by subst h; exact World.alloc_heap_new w o
theorem heap_old {w : World} {n : Nat} {o x : Obj} (h : w.heap[n]? = some x) : (w.alloc o).heap[n]? = some x := (Below.heap_alloc _ _ _ (Array.getElem?_eq_some_iff.1 h).1).trans h
theorem name_ok (t : List UInt8) (w : World) (ht : nameB t = true) (hta : ∀ b ∈ t, b.toNat < 128) : Calls Try.prog 35 #[strV t] w fun e w' => e = .returned (.bool true) ∧ Below w.heap.size w w' := by
  have hl : t.length ≤ 31 := by
    unfold nameB at ht
    simp only [Bool.and_eq_true, decide_eq_true_eq] at ht
    exact ht.1.1.1.2
  rw [← ht]
  exact name_any t w (by omega) (fun w h => any_ascii t w h hta)
theorem DiskM.writeOk {d : DiskM} {t s : List UInt8} {k : Nat} (hlen : d.files.length < 8) (hops : (d.fileOr t).ops.length < 200) (ht : nameB t = true) (hks : k + s.length ≤ 262144) : d.writeWrong t k s = 0 := by
  unfold DiskM.writeWrong
  rw [if_neg (by simp [ht]), if_neg (by omega), if_neg (by omega)]

/-- What the call of act in Write leaves. -/
theorem write_act {W : World} {S : Nat → Prop} {bs bf ba bm b k : Nat} {A : Option Addr} {n c : Nat} {d : DiskM} {s : List UInt8} {f : FileM} {v : Value} (hs : Boxed W bs 9 (strV s)) (ha : Boxed W ba 3 (.int .i64 k)) (hm : Mach W b (.slice A n c) d.off d.fuse) (hp : Boxed W bm 62 (.pointer (some ⟨b, 0, none⟩)))
    (hf : W.heap[bf]? = some (.cells #[strV f.name, strV f.data, v] 46 (0, 0))) (hops : Lst opR W S v f.ops) (hl : Lst fileR W S (.slice A n c) d.files) (hS : ∀ k, S k → k < W.heap.size) (hbS : ¬ S b) (hfS : ¬ S bf)
    (hlen : d.files.length < 8) (hol : f.ops.length < 200) (hfu : -1 ≤ d.fuse ∧ d.fuse ≤ 1048576) (hk : (bsL (d.files.map (·.name)) f.name).2 = true ∨ (bsL (d.files.map (·.name)) f.name).1 = d.files.length) :
    Calls Try.prog 36 #[.pointer (some ⟨b, 0, none⟩), .int .i64 0, .func (.func 37) #[] #[.pointer (some ⟨bs, 0, none⟩), .pointer (some ⟨bf, 0, none⟩), .pointer (some ⟨ba, 0, none⟩), .pointer (some ⟨bm, 0, none⟩)]] W fun e w' =>
      ∃ v S', e = .returned (.tuple #[v, .int .i64 (actD d 0 (setF d.files (moreOps f k s))).2]) ∧ DiskV w' S' v (actD d 0 (setF d.files (moreOps f k s))).1 ∧ (∀ k, S' k → k < w'.heap.size ∧ (S k ∨ W.heap.size ≤ k)) ∧ Mods (fun k => k = b ∨ k = bf) W w' := by
  have hfl : bf < W.heap.size := (Array.getElem?_eq_some_iff.1 hf).1
  have hbl : b < W.heap.size := (Array.getElem?_eq_some_iff.1 hm).1
  have hbf : bf ≠ b := by rintro rfl; rw [hm] at hf; injection hf with hf; injection hf with _ hf; exact absurd hf (by decide)
  refine act_any 37 _ S (fun k => k = bf) b _ d (setF d.files (moreOps f k s)) 0 W hm hl hS hbS (fun k hk => by omega) (by omega) hfu (enters_of Try.func37 (by kernel_rfl) rfl _) ?_
  intro hoff _ hf0 W1 fv' fuse' hmo hlt hm1 ho1
  have hz := hmo.size
  have hbs : bs ≠ b := by rintro rfl; have := hs.symm.trans hm; injection this with this; injection this with _ this; exact absurd this (by decide)
  have hba : ba ≠ b := by rintro rfl; have := ha.symm.trans hm; injection this with this; injection this with _ this; exact absurd this (by decide)
  have hbm : bm ≠ b := by rintro rfl; have := hp.symm.trans hm; injection this with this; injection this with _ this; exact absurd this (by decide)
  have hw1 : WHeld W1 S bs bf ba bm b s f v k := ⟨(hmo.block _ hbs hs.lt).trans hs, (hmo.block _ hbf hfl).trans hf, (hmo.block _ hba ha.lt).trans ha, (hmo.block _ hbm hp.lt).trans hp, hops.keep (fun k hk => hmo.block k (fun e => hbS (e ▸ hk)) (hS k hk)), fun k hk => Nat.lt_of_lt_of_le (hS k hk) hz, hfS⟩
  have hlt1 := ho1.lt
  refine (write1_any S bs bf ba bm b _ s f v fv' k d.off fuse' d.files W1 hw1 (by omega) hm1 ho1 hbS (fun e => hbf e.symm) (fun h => by have := (hlt1 _ h).1; omega) (by omega) (by omega) hk).mono ?_
  rintro e W2 ⟨rfl, fv2, S2, h1, h2, h3, h4⟩
  refine ⟨rfl, fv2, S2, h1, h2, fun k hk => ?_, h4.imp ?_⟩
  · obtain ⟨q1, q2⟩ := h3 k hk
    refine ⟨q1, ?_⟩
    rcases q2 with h | h | h
    · exact .inl h
    · have := (hlt1 _ h).1; exact .inr (by omega)
    · exact .inr (by omega)
  · rintro k - hk (h | h | h)
    · exact hk (.inl h)
    · exact hk (.inr (.inl h))
    · exact hk (.inr (.inr h))

/-- What an act on a disk leaves: the disk, and a number. -/
def DPost (w : World) (S : Nat → Prop) (r : DiskM × Nat) (e : Ending) (w' : World) : Prop :=
  ∃ v S', e = .returned (.tuple #[v, .int .i64 r.2]) ∧ DiskV w' S' v r.1 ∧ (∀ k, S' k → k < w'.heap.size ∧ (S k ∨ w.heap.size ≤ k)) ∧ Below w.heap.size w w'
/-- The result's cells behind the store. -/
theorem write_fin {w w9 wN wZ : World} {S S' : Nat → Prop} {fv : Value} {d1 : DiskM} {b bf r : Nat} {a1 a2 a3 : Value} (hb9 : Below w.heap.size w w9) (hbN : Below w9.heap.size w9 wN) (hmo : Mods (fun k => k = b ∨ k = bf) wN wZ) (hl : Lst fileR wZ S' fv d1.files) (hS : ∀ k, S' k → k < wZ.heap.size ∧ (S k ∨ wN.heap.size ≤ k))
    (hr : wZ.heap[r]? = some (.cells #[a1, a2, a3] 28 (0, 0))) (h1 : w.heap.size ≤ b) (h2 : w.heap.size ≤ bf) (h3 : w.heap.size ≤ r) (h4 : r < wN.heap.size) (hS0 : ∀ k, S k → k < w.heap.size) (x y z : Value) :
    ∃ S9, Lst fileR (((wZ.setCell ⟨r, 0, none⟩ x).setCell ⟨r, 1, none⟩ y).setCell ⟨r, 2, none⟩ z) S9 fv d1.files ∧ (∀ k, S9 k → k < (((wZ.setCell ⟨r, 0, none⟩ x).setCell ⟨r, 1, none⟩ y).setCell ⟨r, 2, none⟩ z).heap.size ∧ (S k ∨ w.heap.size ≤ k)) ∧ Below w.heap.size w (((wZ.setCell ⟨r, 0, none⟩ x).setCell ⟨r, 1, none⟩ y).setCell ⟨r, 2, none⟩ z) := by
  have hz := hmo.size
  have hzN := hbN.size
  have hz9 := hb9.size
  have hne : ∀ k, S' k → k ≠ r := fun k hk e => by
    rcases (hS k hk).2 with h | h
    · have := hS0 k h; omega
    · omega
  have hoth : ∀ k, k ≠ r → (((wZ.setCell ⟨r, 0, none⟩ x).setCell ⟨r, 1, none⟩ y).setCell ⟨r, 2, none⟩ z).heap[k]? = wZ.heap[k]? := fun k hk =>
    (Below.heap_setCell _ ⟨r, 2, none⟩ _ k hk).trans ((Below.heap_setCell _ ⟨r, 1, none⟩ _ k hk).trans (Below.heap_setCell _ ⟨r, 0, none⟩ _ k hk))
  refine ⟨S', hl.keep (fun k hk => hoth k (hne k hk)), fun k hk => ⟨by simpa using (hS k hk).1, by rcases (hS k hk).2 with h | h; exact .inl h; exact .inr (by omega)⟩, ?_⟩
  have hb : Below w.heap.size w wZ := (hb9.trans (hbN.mono hb9.size)).trans ⟨hmo.os, hmo.tape, hmo.output, hmo.size, fun k hk => hmo.block k (by omega) (by omega)⟩
  exact hb.trans ⟨rfl, rfl, rfl, by simp, fun k hk => hoth k (by omega)⟩

set_option maxHeartbeats 4000000 in
theorem write_any (S : Nat → Prop) (fv : Value) (d : DiskM) (t : List UInt8) (k : Nat) (s : List UInt8) (w : World) (hf : Lst fileR w S fv d.files) (hS : ∀ k, S k → k < w.heap.size)
    (hlen : d.files.length < 8) (hops : (d.fileOr t).ops.length < 200) (hfu : -1 ≤ d.fuse ∧ d.fuse ≤ 1048576) (hk : (d.find t).2 = true ∨ (d.find t).1 = d.files.length)
    (ht : nameB t = true) (hta : ∀ b ∈ t, b.toNat < 128) (hks : k + s.length ≤ 262144) :
    Calls Try.prog 23 #[.agg #[fv, .bool d.off, .int .i64 d.fuse], strV t, .int .i64 k, strV s] w fun e w' =>
      DPost w S (d.write t k s) e w' := by
  obtain ⟨A, n, c, rfl, hn, hnc, hcm⟩ := hf.form
  have HN := Lib.hid hn
  clear hn
  obtain ⟨w7, hw7⟩ : ∃ w7, ((((((w.alloc (.cells #[.slice A n c, .bool d.off, .int .i64 d.fuse] 28)).alloc (.cells #[.int .i64 k] 3)).alloc (.cells #[.string (bt s)] 9)).alloc (.cells #[.slice none 0 0, .bool false, .int .i64 0] 28)).alloc (.cells #[.slice A n c, .bool d.off, .int .i64 d.fuse] 64)).alloc (.cells #[.pointer (some ⟨w.heap.size + 1 + 1 + 1 + 1, 0, none⟩)] 62)).alloc (.cells #[.string (bt t), .string ⟨#[]⟩, .slice none 0 0] 46) = w7 := ⟨_, rfl⟩
  have hb7 : Below w.heap.size w w7 := by
    rw [← hw7]; exact (((((((Below.refl _ w).alloc (Nat.le_refl _) _).alloc (by simp) _).alloc (by simp; omega) _).alloc (by simp; omega) _).alloc (by simp; omega) _).alloc (by simp; omega) _).alloc (by simp; omega) _
  have hz7 : w7.heap.size = w.heap.size + 7 := by rw [← hw7]; simp
  have hd7 : w7.heap[w.heap.size]? = some (.cells #[.slice A n c, .bool d.off, .int .i64 d.fuse] 28 (0, 0)) := by rw [← hw7]; repeat (first | exact heap_new (by simp) _ | apply heap_old)
  have ha7 : Boxed w7 (w.heap.size + 1) 3 (.int .i64 k) := by rw [← hw7]; unfold Boxed; repeat (first | exact heap_new (by simp) _ | apply heap_old)
  have hs7 : Boxed w7 (w.heap.size + 1 + 1) 9 (strV s) := by rw [← hw7]; unfold Boxed; repeat (first | exact heap_new (by simp) _ | apply heap_old)
  have hr7 : w7.heap[w.heap.size + 1 + 1 + 1]? = some (.cells #[.slice none 0 0, .bool false, .int .i64 0] 28 (0, 0)) := by rw [← hw7]; repeat (first | exact heap_new (by simp) _ | apply heap_old)
  have hm7 : Mach w7 (w.heap.size + 1 + 1 + 1 + 1) (.slice A n c) d.off d.fuse := by rw [← hw7]; repeat (first | exact heap_new (by simp) _ | apply heap_old)
  have hp7 : Boxed w7 (w.heap.size + 1 + 1 + 1 + 1 + 1) 62 (.pointer (some ⟨w.heap.size + 1 + 1 + 1 + 1, 0, none⟩)) := by rw [← hw7]; unfold Boxed; repeat (first | exact heap_new (by simp) _ | apply heap_old)
  have hf7 : w7.heap[w.heap.size + 1 + 1 + 1 + 1 + 1 + 1]? = some (.cells #[.string (bt t), .string ⟨#[]⟩, .slice none 0 0] 46 (0, 0)) := by rw [← hw7]; repeat (first | exact heap_new (by simp) _ | apply heap_old)
  have hl7 : Lst fileR w7 S (.slice A n c) d.files := hf.keep (fun k hk => hb7.block k (hS k hk))
  have HW7 := Lib.hid hw7
  clear hw7
  go_enter Try.func23, Try.ntmps23
  simp only [strV]
  go_wp2_with fail
  rw [HW7.out]
  refine (at_any S _ _ _ _ d.files t w7 hm7 hl7 (fun k hk => by have := hS k hk; omega) (by omega)).mono ?_
  rintro e w8 ⟨rfl, hb8⟩
  have hb78 : Below w.heap.size w w8 := hb7.trans (hb8.mono (by omega))
  have hz8 := hb8.size
  have hd8 := (hb8.block _ (by omega)).trans hd7
  have ha8 : Boxed w8 _ _ _ := (hb8.block _ (by omega)).trans ha7
  have hs8 : Boxed w8 _ _ _ := (hb8.block _ (by omega)).trans hs7
  have hr8 := (hb8.block _ (by omega)).trans hr7
  have hm8 : Mach w8 _ _ _ _ := (hb8.block _ (by omega)).trans hm7
  have hp8 : Boxed w8 _ _ _ := (hb8.block _ (by omega)).trans hp7
  have hf8 := (hb8.block _ (by omega)).trans hf7
  have hl8 : Lst fileR w8 S (.slice A n c) d.files := hf.keep (fun k hk => hb78.block k (hS k hk))
  have HFO : Hid (d.write t k s = actD d 0 (setF d.files (moreOps (d.fileOr t) k s))) := by unfold DiskM.write; rw [DiskM.writeOk hlen hops ht hks]; exact rfl
  have hwo := hks
  rw [show bsL (d.files.map (·.name)) t = d.find t from rfl]
  cases hfind : (d.find t).2 with
  | false =>
    have hfo : d.fileOr t = ⟨t, [], []⟩ := by unfold DiskM.fileOr; rw [hfind]; rfl
    rw [hfo] at HFO hops
    have hoA : (⟨t, [], []⟩ : FileM).ops.length < 200 := hops
    have hkA : (bsL (d.files.map (·.name)) (⟨t, [], []⟩ : FileM).name).2 = true ∨ (bsL (d.files.map (·.name)) (⟨t, [], []⟩ : FileM).name).1 = d.files.length := hk
    have hvA : Lst opR w8 S (.slice none 0 0) (⟨t, [], []⟩ : FileM).ops := Lst.nil _ _ _
    have hdA := hd8
    have haA := ha8
    have hsA := hs8
    have hrA := hr8
    have hmA := hm8
    have hpA := hp8
    have hfA := hf8
    have hlA := hl8
    have HF8 := Lib.hid hfind
    clear hfind hfo hk hops
    go_wp2_with fail
    cases hse : s.isEmpty
    all_goals
      refine (name_ok t _ ht hta).mono ?_
      rintro e wN ⟨rfl, hbN⟩
      have hzN := hbN.size
      have hdN := (hbN.block _ (by omega)).trans hdA
      have haN : Boxed wN _ _ _ := (hbN.block _ (by omega)).trans haA
      have hsN : Boxed wN _ _ _ := (hbN.block _ (by omega)).trans hsA
      have hrN := (hbN.block _ (by omega)).trans hrA
      have hmN : Mach wN _ _ _ _ := (hbN.block _ (by omega)).trans hmA
      have hpN : Boxed wN _ _ _ := (hbN.block _ (by omega)).trans hpA
      have hfN := (hbN.block _ (by omega)).trans hfA
      have c0 : wN.cell? ⟨w.heap.size + 1, 0, none⟩ = some (.int .i64 k) := haN.cell
      have c1 : wN.cell? ⟨w.heap.size + 1 + 1, 0, none⟩ = some (.string (bt s)) := hsN.cell
      have c2 : wN.cell? ⟨w.heap.size, 0, none⟩ = some (.slice A n c) := cell_of_row wN _ 0 _ _ _ hdN
      have c3 : wN.cell? ⟨w.heap.size + 1 + 1 + 1 + 1 + 1 + 1, 2, none⟩ = some (.slice none 0 0) := cell_of_row wN _ 2 _ _ _ hfN
      have c4 : wN.cell? ⟨w.heap.size + 1 + 1 + 1 + 1 + 1, 0, none⟩ = some (.pointer (some ⟨w.heap.size + 1 + 1 + 1 + 1, 0, none⟩)) := hpN.cell
      have HACT := Lib.hid (write_act (k := k) (f := (⟨t, [], []⟩ : FileM)) hsN haN hmN hpN hfN (hvA.keep (fun k hk => hbN.block k (by have := hS k hk; omega))) (hlA.keep (fun k hk => hbN.block k (by have := hS k hk; omega))) (fun k hk => by have := hS k hk; omega) (fun h => by have := hS _ h; omega) (fun h => by have := hS _ h; omega) hlen hoA hfu hkA)
      have hHN := HN.out
      have b1 : decide ((k : Int) < 0) = false := decide_eq_false (by omega)
      have b2 : decide (262144 < (k : Int)) = false := decide_eq_false (by omega)
      have b3 : IntKind.i64.wrap (262144 - (k : Int)) = 262144 - k := IntWalk.i64_in _ (by omega)
      have b4 : decide (262144 - (k : Int) < s.length) = false := decide_eq_false (by omega)
      have b5 : decide (8 ≤ (n : Int)) = false := decide_eq_false (by omega)
      have b6 : decide ((200 : Int) ≤ 0) = false := rfl
      have eL : (bt s).toList = s := bt_toList s
      have eS : (bt s).size = s.length := bt_size s
      clear hdA haA hsA hrA hmA hpA hfA hvA hlA hkA hHN
      go_wp2_with fail
      refine HACT.out.mono ?_
      rintro e wZ ⟨v', S', rfl, ⟨fv2, rfl, hlZ⟩, hSZ, hmoZ⟩
      have hzZ := hmoZ.size
      have hrZ := (hmoZ.block (w.heap.size + 1 + 1 + 1) (by omega) (by omega)).trans hrN
      have r0 : wZ.cell? ⟨w.heap.size + 1 + 1 + 1, 0, none⟩ = some (.slice none 0 0) := cell_of_row wZ _ 0 _ _ _ hrZ
      have r1 : wZ.cell? ⟨w.heap.size + 1 + 1 + 1, 1, none⟩ = some (.bool false) := cell_of_row wZ _ 1 _ _ _ hrZ
      have r2 : wZ.cell? ⟨w.heap.size + 1 + 1 + 1, 2, none⟩ = some (.int .i64 0) := cell_of_row wZ _ 2 _ _ _ hrZ
      have r3 : wZ.frozen? ⟨w.heap.size + 1 + 1 + 1, 0, none⟩ = false := frozen_of_row wZ _ 0 _ _ hrZ
      have r4 : wZ.frozen? ⟨w.heap.size + 1 + 1 + 1, 1, none⟩ = false := frozen_of_row wZ _ 1 _ _ hrZ
      have r5 : wZ.frozen? ⟨w.heap.size + 1 + 1 + 1, 2, none⟩ = false := frozen_of_row wZ _ 2 _ _ hrZ
      have HFIN := Lib.hid (write_fin (w := w) (d1 := (actD d 0 (setF d.files (moreOps (⟨t, [], []⟩) k s))).1) hb78 hbN hmoZ hlZ hSZ hrZ (by omega) (by omega) (by omega) (by omega) hS)
      obtain ⟨A3, n3, c3', rfl, -⟩ := hlZ.form
      clear c0 c1 c2 c3 c4
      go_wp2_with fail
      obtain ⟨S9, f1, f2, f3⟩ := HFIN.out (.slice A3 n3 c3') (.bool (actD d 0 (setF d.files (moreOps (⟨t, [], []⟩) k s))).1.off) (.int .i64 (actD d 0 (setF d.files (moreOps (⟨t, [], []⟩) k s))).1.fuse)
      refine bodyPost_ret (v := .tuple #[.agg #[.slice A3 n3 c3', .bool (actD d 0 (setF d.files (moreOps (⟨t, [], []⟩) k s))).1.off, .int .i64 (actD d 0 (setF d.files (moreOps (⟨t, [], []⟩) k s))).1.fuse], .int .i64 (actD d 0 (setF d.files (moreOps (⟨t, [], []⟩) k s))).2]) ?_ rfl ?_
      · simp [results, Try.results23, go_sem, r0, r1, r2]
      · rw [HFO.out]
        exact ⟨_, S9, rfl, ⟨_, rfl, f1⟩, f2, f3⟩
  | true =>
    obtain ⟨f, hfk, hfn⟩ := DiskM.found hfind
    have hkl : (d.find t).1 < d.files.length := (List.getElem?_eq_some_iff.1 hfk).1
    have hfo : d.fileOr t = f := by unfold DiskM.fileOr; rw [hfind, hfk]; rfl
    have hkf : (bsL (d.files.map (·.name)) f.name).2 = true := by rw [hfn]; exact hfind
    rw [hfo] at HFO hops
    have hmem : f ∈ d.files := List.mem_of_getElem? hfk
    have hkn : (d.find t).1 < n := by have := HN.out; omega
    obtain ⟨ad, f', v, hA, hadlt, hx, hvo, hcells⟩ := file_at (k := (d.find t).1) hf hS hkl
    rw [hfk] at hx
    injection hx with hx
    subst hx
    subst hA
    obtain ⟨h0, h1, h2⟩ := hcells w8 hb78
    generalize (d.find t).1 = j at *
    obtain ⟨A', n', c', rfl, -⟩ := hvo.form
    have hvo8 := hvo.keep (W' := w8) (fun k hk => hb78.block k (hS k hk))
    obtain ⟨w9, hw9⟩ : ∃ w9, ((w8.setCell ⟨w.heap.size + 1 + 1 + 1 + 1 + 1 + 1, 0, none⟩ (strV f.name)).setCell ⟨w.heap.size + 1 + 1 + 1 + 1 + 1 + 1, 1, none⟩ (strV f.data)).setCell ⟨w.heap.size + 1 + 1 + 1 + 1 + 1 + 1, 2, none⟩ (.slice A' n' c') = w9 := ⟨_, rfl⟩
    have hk9 : ∀ k, k ≠ w.heap.size + 1 + 1 + 1 + 1 + 1 + 1 → w9.heap[k]? = w8.heap[k]? := fun k hk => by
      rw [← hw9]; exact ((Below.heap_setCell _ ⟨w.heap.size + 1 + 1 + 1 + 1 + 1 + 1, 2, none⟩ _ k hk).trans ((Below.heap_setCell _ ⟨w.heap.size + 1 + 1 + 1 + 1 + 1 + 1, 1, none⟩ _ k hk).trans (Below.heap_setCell _ ⟨w.heap.size + 1 + 1 + 1 + 1 + 1 + 1, 0, none⟩ _ k hk)))
    have hz9 : w9.heap.size = w8.heap.size := by rw [← hw9]; simp
    have hf9 : w9.heap[w.heap.size + 1 + 1 + 1 + 1 + 1 + 1]? = some (.cells #[strV f.name, strV f.data, .slice A' n' c'] 46 (0, 0)) := by
      rw [← hw9]
      have e1 := heap_setCell_same w8 (w.heap.size + 1 + 1 + 1 + 1 + 1 + 1) 0 _ _ (strV f.name) hf8
      have e2 := heap_setCell_same _ (w.heap.size + 1 + 1 + 1 + 1 + 1 + 1) 1 _ _ (strV f.data) e1
      have e3 := heap_setCell_same _ (w.heap.size + 1 + 1 + 1 + 1 + 1 + 1) 2 _ _ (.slice A' n' c') e2
      simpa using e3
    have g0 : w8.cell? ⟨w.heap.size + 1 + 1 + 1 + 1 + 1 + 1, 0, none⟩ = some (.string (bt t)) := cell_of_row w8 _ 0 _ _ _ hf8
    have g1 : w8.cell? ⟨w.heap.size + 1 + 1 + 1 + 1 + 1 + 1, 1, none⟩ = some (.string ⟨#[]⟩) := cell_of_row w8 _ 1 _ _ _ hf8
    have g2 : w8.cell? ⟨w.heap.size + 1 + 1 + 1 + 1 + 1 + 1, 2, none⟩ = some (.slice none 0 0) := cell_of_row w8 _ 2 _ _ _ hf8
    have g3 : w8.frozen? ⟨w.heap.size + 1 + 1 + 1 + 1 + 1 + 1, 0, none⟩ = false := frozen_of_row w8 _ 0 _ _ hf8
    have g4 : w8.frozen? ⟨w.heap.size + 1 + 1 + 1 + 1 + 1 + 1, 1, none⟩ = false := frozen_of_row w8 _ 1 _ _ hf8
    have g5 : w8.frozen? ⟨w.heap.size + 1 + 1 + 1 + 1 + 1 + 1, 2, none⟩ = false := frozen_of_row w8 _ 2 _ _ hf8
    have gd : w8.cell? ⟨w.heap.size, 0, none⟩ = some (.slice (some ad) n c) := cell_of_row w8 _ 0 _ _ _ hd8
    have HW9 := Lib.hid hw9
    have HFN := Lib.hid hfn
    have HX := Lib.hid hfk
    have HFO2 := Lib.hid hfo
    have HKF := Lib.hid hkf
    clear hw9 hfn hfk hfo hkf hfind
    go_wp2_with fail
    rw [HW9.out]
    have hb9 : Below w.heap.size w w9 := hb78.trans ⟨by rw [← HW9.out]; rfl, by rw [← HW9.out]; rfl, by rw [← HW9.out]; rfl, by omega, fun k hk => hk9 k (by omega)⟩
    have hdA := (hk9 _ (by omega)).trans hd8
    have haA : Boxed w9 _ _ _ := (hk9 _ (by omega)).trans ha8
    have hsA : Boxed w9 _ _ _ := (hk9 _ (by omega)).trans hs8
    have hrA := (hk9 _ (by omega)).trans hr8
    have hmA : Mach w9 _ _ _ _ := (hk9 _ (by omega)).trans hm8
    have hpA : Boxed w9 _ _ _ := (hk9 _ (by omega)).trans hp8
    have hfA := hf9
    have hvA := hvo.keep (W' := w9) (fun k hk => hb9.block k (hS k hk))
    have hlA := hf.keep (W' := w9) (fun k hk => hb9.block k (hS k hk))
    have hoA := hops
    have hkA : (bsL (d.files.map (·.name)) f.name).2 = true ∨ (bsL (d.files.map (·.name)) f.name).1 = d.files.length := .inl HKF.out
    have HNO := Lib.hid (show n' = f.ops.length by obtain ⟨A2, c2, e, -⟩ := hvo.shape; injection e)
    have hno : n' < 200 := by have := HNO.out; omega
    clear g0 g1 g2 g3 g4 g5 gd h0 h1 h2 hcells hk hops
    cases hse : s.isEmpty
    all_goals
      refine (name_ok t _ ht hta).mono ?_
      rintro e wN ⟨rfl, hbN⟩
      have hzN := hbN.size
      have hdN := (hbN.block _ (by omega)).trans hdA
      have haN : Boxed wN _ _ _ := (hbN.block _ (by omega)).trans haA
      have hsN : Boxed wN _ _ _ := (hbN.block _ (by omega)).trans hsA
      have hrN := (hbN.block _ (by omega)).trans hrA
      have hmN : Mach wN _ _ _ _ := (hbN.block _ (by omega)).trans hmA
      have hpN : Boxed wN _ _ _ := (hbN.block _ (by omega)).trans hpA
      have hfN := (hbN.block _ (by omega)).trans hfA
      have c0 : wN.cell? ⟨w.heap.size + 1, 0, none⟩ = some (.int .i64 k) := haN.cell
      have c1 : wN.cell? ⟨w.heap.size + 1 + 1, 0, none⟩ = some (.string (bt s)) := hsN.cell
      have c2 : wN.cell? ⟨w.heap.size, 0, none⟩ = some (.slice (some ad) n c) := cell_of_row wN _ 0 _ _ _ hdN
      have c3 : wN.cell? ⟨w.heap.size + 1 + 1 + 1 + 1 + 1 + 1, 2, none⟩ = some (.slice A' n' c') := cell_of_row wN _ 2 _ _ _ hfN
      have c4 : wN.cell? ⟨w.heap.size + 1 + 1 + 1 + 1 + 1, 0, none⟩ = some (.pointer (some ⟨w.heap.size + 1 + 1 + 1 + 1, 0, none⟩)) := hpN.cell
      have HACT := Lib.hid (write_act (k := k) (f := f) hsN haN hmN hpN hfN (hvA.keep (fun k hk => hbN.block k (by have := hS k hk; omega))) (hlA.keep (fun k hk => hbN.block k (by have := hS k hk; omega))) (fun k hk => by have := hS k hk; omega) (fun h => by have := hS _ h; omega) (fun h => by have := hS _ h; omega) hlen hoA hfu hkA)
      have hHN := HN.out
      have b1 : decide ((k : Int) < 0) = false := decide_eq_false (by omega)
      have b2 : decide (262144 < (k : Int)) = false := decide_eq_false (by omega)
      have b3 : IntKind.i64.wrap (262144 - (k : Int)) = 262144 - k := IntWalk.i64_in _ (by omega)
      have b4 : decide (262144 - (k : Int) < s.length) = false := decide_eq_false (by omega)
      have b5 : decide (8 ≤ (n : Int)) = false := decide_eq_false (by omega)
      have b6 : decide (200 ≤ (n' : Int)) = false := decide_eq_false (by omega)
      have eL : (bt s).toList = s := bt_toList s
      have eS : (bt s).size = s.length := bt_size s
      clear hdA haA hsA hrA hmA hpA hfA hvA hlA hkA hHN
      go_wp2_with fail
      refine HACT.out.mono ?_
      rintro e wZ ⟨v', S', rfl, ⟨fv2, rfl, hlZ⟩, hSZ, hmoZ⟩
      have hzZ := hmoZ.size
      have hrZ := (hmoZ.block (w.heap.size + 1 + 1 + 1) (by omega) (by omega)).trans hrN
      have r0 : wZ.cell? ⟨w.heap.size + 1 + 1 + 1, 0, none⟩ = some (.slice none 0 0) := cell_of_row wZ _ 0 _ _ _ hrZ
      have r1 : wZ.cell? ⟨w.heap.size + 1 + 1 + 1, 1, none⟩ = some (.bool false) := cell_of_row wZ _ 1 _ _ _ hrZ
      have r2 : wZ.cell? ⟨w.heap.size + 1 + 1 + 1, 2, none⟩ = some (.int .i64 0) := cell_of_row wZ _ 2 _ _ _ hrZ
      have r3 : wZ.frozen? ⟨w.heap.size + 1 + 1 + 1, 0, none⟩ = false := frozen_of_row wZ _ 0 _ _ hrZ
      have r4 : wZ.frozen? ⟨w.heap.size + 1 + 1 + 1, 1, none⟩ = false := frozen_of_row wZ _ 1 _ _ hrZ
      have r5 : wZ.frozen? ⟨w.heap.size + 1 + 1 + 1, 2, none⟩ = false := frozen_of_row wZ _ 2 _ _ hrZ
      have HFIN := Lib.hid (write_fin (w := w) (d1 := (actD d 0 (setF d.files (moreOps (f) k s))).1) hb9 hbN hmoZ hlZ hSZ hrZ (by omega) (by omega) (by omega) (by omega) hS)
      obtain ⟨A3, n3, c3', rfl, -⟩ := hlZ.form
      clear c0 c1 c2 c3 c4
      go_wp2_with fail
      obtain ⟨S9, f1, f2, f3⟩ := HFIN.out (.slice A3 n3 c3') (.bool (actD d 0 (setF d.files (moreOps (f) k s))).1.off) (.int .i64 (actD d 0 (setF d.files (moreOps (f) k s))).1.fuse)
      refine bodyPost_ret (v := .tuple #[.agg #[.slice A3 n3 c3', .bool (actD d 0 (setF d.files (moreOps (f) k s))).1.off, .int .i64 (actD d 0 (setF d.files (moreOps (f) k s))).1.fuse], .int .i64 (actD d 0 (setF d.files (moreOps (f) k s))).2]) ?_ rfl ?_
      · simp [results, Try.results23, go_sem, r0, r1, r2]
      · rw [HFO.out]
        exact ⟨_, S9, rfl, ⟨_, rfl, f1⟩, f2, f3⟩

end Go.Proofs.Ytaalhhgjliofaaa
