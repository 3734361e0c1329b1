/- The contract of the program's Write (silo/disk). -/
import Derived.Test.YtaalhhgjliofaaaAct
import Derived.Test.YtaalhhgjliofaaaDisk2
import Derived.Test.YtaalhhgjliofaaaName
import Derived.Test.YtaalhhgjliofaaaPWal
import Derived.Deep.RegionLaw
set_option linter.unusedVariables false
set_option linter.unusedSimpArgs false
set_option maxRecDepth 100000
namespace Go.Proofs.Ytaalhhgjliofaaa
open Go.RowKit Go.Shelf

/-- What the closure of Write holds. -/
structure WHeld (W : World) (S : Nat → Prop) (bs bf ba bm b : Nat) (s : List UInt8) (f : FileM) (v : Value) (k : Nat) : Prop where
  hs : Boxed W bs 9 (strV s)
  hf : W.heap[bf]? = some (.cells #[strV f.name, strV f.data, v] 46 (0, 0))
  ha : Boxed W ba 3 (.int .i64 k)
  hm : Boxed W bm 62 (.pointer (some ⟨b, 0, none⟩))
  ops : Lst opR W S v f.ops
  lt : ∀ k, S k → k < W.heap.size
  nf : ¬ S bf

theorem write1_clone {W W0 : World} {S : Nat → Prop} {bs bf ba bm b k : Nat} {s : List UInt8} {f : FileM} {v : Value} (h : WHeld W S bs bf ba bm b s f v k) (hlen : f.ops.length ≤ 1000000) (hb : Below W.heap.size W W0) :
    Calls Try.prog 38 #[v] W0 fun e w2 => ∃ A2 n2 c2, e = .returned (.slice A2 n2 c2) ∧ Own opR w2 W.heap.size 49 S (.slice A2 n2 c2) f.ops ∧ Below W0.heap.size W0 w2 ∧
      w2.cell? ⟨bs, 0, none⟩ = some (.string (bt s)) ∧ w2.cell? ⟨ba, 0, none⟩ = some (.int .i64 k) ∧ w2.cell? ⟨bf, 2, none⟩ = some v ∧ w2.frozen? ⟨bf, 2, none⟩ = false := by
  have hz := hb.size
  refine (clone_ops S v f.ops W0 (h.ops.keep (fun j hj => hb.block j (h.lt j hj))) (fun j hj => by have := h.lt j hj; omega) hlen).mono ?_
  rintro e w2 ⟨v', rfl, ho, hb2⟩
  obtain ⟨A2, n2, c2, rfl, -⟩ := ho.read.form
  have hk : ∀ j, j < W.heap.size → w2.heap[j]? = W.heap[j]? := fun j hj => (hb2.block j (by omega)).trans (hb.block j hj)
  have hf2 : w2.heap[bf]? = some (.cells #[strV f.name, strV f.data, v] 46 (0, 0)) := (hk bf (Array.getElem?_eq_some_iff.1 h.hf).1).trans h.hf
  exact ⟨A2, n2, c2, rfl, ho.rebase hz, hb2, Boxed.cell (W := w2) ((hk bs h.hs.lt).trans h.hs), Boxed.cell (W := w2) ((hk ba h.ha.lt).trans h.ha), cell_of_row w2 _ 2 _ _ _ hf2, frozen_of_row w2 bf 2 _ _ hf2⟩

/-- Ready to append: the copy is there, the new write lies in a block of its own. -/
def WReady (W : World) (S : Nat → Prop) (bf k : Nat) (s : List UInt8) (f : FileM) (v : Value) (g : Nat) (av : Value) (Wx : World) : Prop :=
  Own opR Wx W.heap.size 49 S av f.ops ∧ Src opR Wx S (some ⟨g, 0, none⟩) [(k, s)] ∧ Below W.heap.size W Wx
theorem wready_a {W W0 w2 : World} {S : Nat → Prop} {bf k : Nat} {s : List UInt8} {f : FileM} {v av : Value} (hS : ∀ k, S k → k < W.heap.size) (hb : Below W.heap.size W W0) (ho : Own opR w2 W.heap.size 49 S av f.ops) (hb2 : Below W0.heap.size W0 w2) :
    WReady W S bf k s f v w2.heap.size av (w2.alloc (.cells #[.int .i64 k, .string (bt s)] 49)) := by
  have hz := hb.size
  have hz2 := hb2.size
  have hlt := ho.lt
  refine ⟨ho.same (fun j hj => Below.heap_alloc _ _ _ ?_), Src.one_new 49 (cs := #[.int .i64 k, .string (bt s)]) rfl (fun j hj => by have := hS j hj; omega), (hb.trans (hb2.mono hz)).alloc (by omega) _⟩
  rcases hj with h | h
  · have := hS j h; omega
  · exact (hlt j h).2
theorem wready_b {W W0 w2 : World} {S : Nat → Prop} {bf k : Nat} {s : List UInt8} {f : FileM} {v av : Value} (hS : ∀ k, S k → k < W.heap.size) (hb : Below W.heap.size W W0) (hn : W0.heap[W.heap.size]? = some (.cells #[.int .i64 k, .string (bt s)] 49 (0, 0))) (ho : Own opR w2 W.heap.size 49 S av f.ops) (hb2 : Below W0.heap.size W0 w2) :
    WReady W S bf k s f v W.heap.size av w2 := by
  have hz := hb.size
  have hlt : W.heap.size < W0.heap.size := (Array.getElem?_eq_some_iff.1 hn).1
  refine ⟨ho, ⟨opV (k, s), .single rfl, fun _ => ⟨_, rfl, fun j u hu => ?_⟩⟩, hb.trans (hb2.mono hz)⟩
  have hadd : (⟨W.heap.size, 0, none⟩ : Addr).add j = ⟨W.heap.size, j, none⟩ := by unfold Addr.add; split <;> simp_all
  rw [hadd, cell_of_row w2 _ j _ _ _ ((hb2.block _ hlt).trans hn)]
  simpa [opV, strV] using hu
/-- Behind the append and the store. -/
theorem write1_stored {W Wx w3 : World} {S : Nat → Prop} {bs bf ba bm b k g : Nat} {s : List UInt8} {f : FileM} {v av sv : Value} (h : WHeld W S bs bf ba bm b s f v k) (hr : WReady W S bf k s f v g av Wx)
    (ho : Own opR w3 W.heap.size 49 S sv (f.ops ++ [(k, s)])) (hg : Wx.grownBy w3 av.ownBlock) :
    w3.cell? ⟨bf, 2, none⟩ = some v ∧ w3.frozen? ⟨bf, 2, none⟩ = false ∧ w3.cell? ⟨bs, 0, none⟩ = some (.string (bt s)) ∧ w3.cell? ⟨ba, 0, none⟩ = some (.int .i64 k) ∧ (∃ A n c, sv = .slice A n c) ∧ Mods (fun j => j = bf) W (w3.setCell ⟨bf, 2, none⟩ sv) ∧
      (w3.setCell ⟨bf, 2, none⟩ sv).heap[bf]? = some (.cells #[strV f.name, strV f.data, sv] 46 (0, 0)) ∧
      ∃ S2, Lst opR (w3.setCell ⟨bf, 2, none⟩ sv) S2 sv (f.ops ++ [(k, s)]) ∧ ∀ j, S2 j → S j ∨ (W.heap.size ≤ j ∧ j < w3.heap.size) := by
  obtain ⟨h1, h2, h3⟩ := hr
  have hz := h3.size
  have hlt := h1.lt
  have hfl : bf < W.heap.size := (Array.getElem?_eq_some_iff.1 h.hf).1
  have hk : ∀ j, j < W.heap.size → w3.heap[j]? = W.heap[j]? := fun j hj => (hg.block j (by omega) (fun e => by have := (hlt j e.symm).1; omega)).trans (h3.block j hj)
  have hf3 : w3.heap[bf]? = some (.cells #[strV f.name, strV f.data, v] 46 (0, 0)) := (hk bf hfl).trans h.hf
  obtain ⟨A3, n3, c3, rfl, -⟩ := ho.read.form
  refine ⟨cell_of_row w3 _ 2 _ _ _ hf3, frozen_of_row w3 bf 2 _ _ hf3, Boxed.cell (W := w3) ((hk bs h.hs.lt).trans h.hs), Boxed.cell (W := w3) ((hk ba h.ha.lt).trans h.ha), ⟨_, _, _, rfl⟩, ?_, ?_, ?_⟩
  · refine Same.trans ⟨hg.os.trans h3.os, hg.tape.trans h3.tape, hg.output.trans h3.output, Nat.le_trans hz hg.size, fun j _ hj => hk j hj⟩ (Mods.setCell (M := fun j => j = bf) _ (p := ⟨bf, 2, none⟩) (fun _ => rfl) _)
  · simpa using heap_setCell_same w3 bf 2 _ _ (.slice A3 n3 c3) hf3
  · refine ⟨_, ho.read.keep (fun j hj => Below.heap_setCell _ ⟨bf, 2, none⟩ _ j ?_), fun j hj => ?_⟩
    · intro e
      have e : j = bf := e
      rcases hj with hj | hj
      · exact h.nf (e ▸ hj)
      · have := (ho.lt j hj).1; omega
    · rcases hj with hj | hj
      · exact .inl hj
      · exact .inr (ho.lt j hj)

theorem Own.widen {α : Type} {r : Rep α} {W : World} {S S' : Nat → Prop} {v : Value} {xs : List α} {base : Nat} {e : TypeId} (h : Own r W base e S v xs) (hS : ∀ k, S k → S' k) (hn : ∀ k, v.ownBlock = some k → ¬ S' k) : Own r W base e S' v xs := by
  obtain ⟨cells, h1, h2, h3⟩ := h
  exact ⟨cells, h1, h2.mono hS, hn⟩
/-- The call of set at the end of the closure. -/
theorem write1_set {W W1 : World} {S S1 : Nat → Prop} {bf b base : Nat} {f : FileM} {sv fv : Value} {os : List (Nat × List UInt8)} {off : Bool} {fuse : Int} {fs : List FileM} (hm : Mach W b fv off fuse) (ho : Own fileR W base 46 S fv fs) (hS : ∀ k, S k → k < W.heap.size) (hbS : ¬ S b) (hbf : b ≠ bf) (hfS : ¬ S bf) (hof : fv.ownBlock ≠ some bf) (hbase : base ≤ W.heap.size) (hlen : fs.length ≤ 1000000)
    (hmo : Mods (fun j => j = bf) W W1) (hv : Lst opR W1 S1 sv os) (hS1 : ∀ j, S1 j → S j ∨ (W.heap.size ≤ j ∧ j < W1.heap.size)) (hk : (bsL (fs.map (·.name)) f.name).2 = true ∨ (bsL (fs.map (·.name)) f.name).1 = fs.length) :
    Calls Try.prog 39 #[.pointer (some ⟨b, 0, none⟩), .agg #[strV f.name, strV f.data, sv]] W1 fun e W' =>
      e = .returned (.tuple #[]) ∧ ∃ fv2 S2, Mach W' b fv2 off fuse ∧ Lst fileR W' S2 fv2 (setF fs ⟨f.name, f.data, os⟩) ∧ (∀ k, S2 k → k < W'.heap.size ∧ (S k ∨ fv.ownBlock = some k ∨ W.heap.size ≤ k)) ∧ Mods (fun k => k = b ∨ k = bf ∨ fv.ownBlock = some k) W W' := by
  have hbl : b < W.heap.size := (Array.getElem?_eq_some_iff.1 hm).1
  have hz := hmo.size
  have hlt := ho.lt
  have ho1 : Own fileR W1 base 46 (fun j => S j ∨ (W.heap.size ≤ j ∧ j < W1.heap.size)) fv fs := (ho.same (fun k hk => by
    refine hmo.block k ?_ ?_
    · rintro rfl
      rcases hk with h | h
      · exact hfS h
      · exact hof h
    · rcases hk with h | h
      · exact hS k h
      · exact (hlt k h).2)).widen (fun k h => .inl h) (fun k h => by
    obtain ⟨-, -, -, h3⟩ := ho
    rintro (h' | h')
    · exact h3 k h h'
    · have := (hlt k h).2; omega)
  refine (set_any (fun j => S j ∨ (W.heap.size ≤ j ∧ j < W1.heap.size)) base b fv off fuse fs ⟨f.name, f.data, os⟩ sv W1 ((hmo.block b hbf hbl).trans hm) ho1 (fun k hk => by
    rcases hk with h | h
    · have := hS k h; omega
    · omega) (fun h => by
    rcases h with h | h
    · exact hbS h
    · omega) (by omega) hlen (hv.mono hS1) hk).mono ?_
  rintro e W' ⟨fv2, rfl, hm2, ho2, hmo2, hat⟩
  refine ⟨rfl, fv2, _, hm2, ho2.read, ?_, ?_⟩
  · have hz2 := hmo2.size
    rintro k ((h | h) | h)
    · exact ⟨by have := hS k h; omega, .inl h⟩
    · exact ⟨by omega, .inr (.inr h.1)⟩
    · refine ⟨(ho2.lt k h).2, ?_⟩
      rcases hat with e | ⟨k', e, hk'⟩
      · exact .inr (.inl (e ▸ h))
      · rw [e] at h; injection h with h; exact .inr (.inr (by omega))
  · refine (hmo.imp ?_).trans (hmo2.imp ?_)
    · intro k _ hk h; exact hk (.inr (.inl h))
    · rintro k _ hk (h | h)
      · exact hk (.inl h)
      · exact hk (.inr (.inr h))

set_option maxHeartbeats 4000000 in
theorem write1_any (S : Nat → Prop) (bs bf ba bm b base : Nat) (s : List UInt8) (f : FileM) (v fv : Value) (k : Nat) (off : Bool) (fuse : Int) (fs : List FileM) (W : World) (hw : WHeld W S bs bf ba bm b s f v k) (hlen : f.ops.length ≤ 1000000)
    (hm : Mach W b fv off fuse) (ho : Own fileR W base 46 S fv fs) (hbS : ¬ S b) (hbf : b ≠ bf) (hof : fv.ownBlock ≠ some bf) (hbase : base ≤ W.heap.size) (hlen2 : fs.length ≤ 1000000) (hk : (bsL (fs.map (·.name)) f.name).2 = true ∨ (bsL (fs.map (·.name)) f.name).1 = fs.length) :
    Calls Try.prog 37 #[.pointer (some ⟨bs, 0, none⟩), .pointer (some ⟨bf, 0, none⟩), .pointer (some ⟨ba, 0, none⟩), .pointer (some ⟨bm, 0, none⟩)] W fun e W' =>
      e = .returned (.tuple #[]) ∧ ∃ fv2 S2, Mach W' b fv2 off fuse ∧ Lst fileR W' S2 fv2 (setF fs (moreOps f k s)) ∧ (∀ k, S2 k → k < W'.heap.size ∧ (S k ∨ fv.ownBlock = some k ∨ W.heap.size ≤ k)) ∧ Mods (fun k => k = b ∨ k = bf ∨ fv.ownBlock = some k) W W' := by
  have HSET := Lib.hid (fun W1 S1 sv os hmo hv hS1 => write1_set (W1 := W1) (S1 := S1) (sv := sv) (os := os) (f := f) hm ho hw.lt hbS hbf hw.nf hof hbase hlen2 hmo hv hS1 hk)
  obtain ⟨i0, hi0, hz0, hz1, hz2⟩ := info_parts info_ops
  have cs := hw.hs.cell
  have ca := hw.ha.cell
  have cm := hw.hm.cell
  have f0 : W.cell? ⟨bf, 0, none⟩ = some (strV f.name) := cell_of_row W _ 0 _ _ _ hw.hf
  have f1 : W.cell? ⟨bf, 1, none⟩ = some (strV f.data) := cell_of_row W _ 1 _ _ _ hw.hf
  have f2 : W.cell? ⟨bf, 2, none⟩ = some v := cell_of_row W _ 2 _ _ _ hw.hf
  have es : (bt s).toList = s := bt_toList s
  have mixed : Try.prog.follows .mixedOrders = true := by kernel_rfl
  clear hm ho hbS hof hk
  by_cases h0 : s = []
  · have HM : Hid (moreOps f k s = ⟨f.name, f.data, f.ops⟩) := by unfold moreOps; rw [if_pos h0]; exact rfl
    have HS := Lib.hid (HSET.out W S v f.ops (Same.refl _ _) hw.ops (fun j h => .inl h))
    subst h0
    clear hw
    go_enter Try.func37, Try.ntmps37
    simp only [strV] at cs
    go_wp2_with fail
    refine HS.out.mono ?_
    rintro e W' ⟨rfl, hq⟩
    have HQ := Lib.hid hq
    clear hq
    go_wp2_with fail
    go_end0
    refine ⟨rfl, ?_⟩
    rw [HM.out]; exact HQ.out
  · have HM : Hid (moreOps f k s = ⟨f.name, f.data, f.ops ++ [(k, s)]⟩) := by unfold moreOps; rw [if_neg h0]; exact rfl
    have hne : s.isEmpty = false := by simpa using h0
    have HW := Lib.hid hw
    go_enter Try.func37, Try.ntmps37
    simp only [strV] at cs
    go_wp2_with fail
    have HC := Lib.hid (fun W0 hb => write1_clone (W0 := W0) hw hlen hb)
    have HA := Lib.hid (fun W0 w2 av hb ho hb2 => wready_a (W0 := W0) (w2 := w2) (av := av) (bf := bf) (k := k) (s := s) (f := f) (v := v) hw.lt hb ho hb2)
    have HB := Lib.hid (fun W0 w2 av hb hn ho hb2 => wready_b (W0 := W0) (w2 := w2) (av := av) (bf := bf) (k := k) (s := s) (f := f) (v := v) hw.lt hb hn ho hb2)
    have HST := Lib.hid (fun Wx w3 g av sv hr ho hg => write1_stored (Wx := Wx) (w3 := w3) (g := g) (av := av) (sv := sv) hw hr ho hg)
    have hlw : bs < W.heap.size ∧ ba < W.heap.size ∧ bf < W.heap.size := ⟨hw.hs.lt, hw.ha.lt, (Array.getElem?_eq_some_iff.1 hw.hf).1⟩
    obtain ⟨l1, l2, l3⟩ := hlw
    have hS0 := hw.lt
    clear hw
    have nb1 : bs ≠ bf := by rintro rfl; have := HW.out.hs.symm.trans HW.out.hf; injection this with this; injection this with _ this; exact absurd this (by decide)
    have nb2 : ba ≠ bf := by rintro rfl; have := HW.out.ha.symm.trans HW.out.hf; injection this with this; injection this with _ this; exact absurd this (by decide)
    have B1 := Lib.hid (show f.ops.length + 1 ≤ maxLen by unfold maxLen; omega)
    have B2 := Lib.hid (show (f.ops.length + 1) * 24 ≤ 140737488355328 by omega)
    have HSl := Lib.hid hS0
    apply wp_rel1 (β := Option Addr × Nat × Nat × Nat × Option Addr × Nat × Nat) (A := fun x => ⟨#[.pointer (some ⟨bs, 0, none⟩), .pointer (some ⟨bf, 0, none⟩), .pointer (some ⟨ba, 0, none⟩), .pointer (some ⟨bm, 0, none⟩), .string (bt s), .bool true, .pointer (some ⟨bf, 2, none⟩), v, .slice x.1 x.2.1 x.2.2.1, .int .i64 k, .string (bt s), .agg #[.int .i64 k, .string (bt s)], .slice (some ⟨x.2.2.2.1, 0, none⟩) 1 1, .slice x.2.2.2.2.1 x.2.2.2.2.2.1 x.2.2.2.2.2.2, .pointer (some ⟨bf, 2, none⟩), undef, undef, undef], []⟩)
      (R := fun x W' => Mods (fun j => j = bf) W W' ∧ W'.heap[bf]? = some (.cells #[strV f.name, strV f.data, .slice x.2.2.2.2.1 x.2.2.2.2.2.1 x.2.2.2.2.2.2] 46 (0, 0)) ∧
        ∃ S2, Lst opR W' S2 (.slice x.2.2.2.2.1 x.2.2.2.2.2.1 x.2.2.2.2.2.2) (f.ops ++ [(k, s)]) ∧ ∀ j, S2 j → S j ∨ (W.heap.size ≤ j ∧ j < W'.heap.size))
    case h =>
      go_region_law (first
        | (go_simp; go_at_call 38; refine (HC.out _ (by first | exact Below.drew (Below.refl _ W) | exact (Below.drew (Below.refl _ W)).alloc (Nat.le_refl _) _ | exact Below.drew ((Below.refl _ W).alloc (Nat.le_refl _) _))).mono ?_; rintro e w2 ⟨A2, n2, c2, rfl, ho2, hb2, k1, k2, k3, k4⟩; have HO2 := Lib.hid ho2; clear ho2)
        | (have hr := HA.out _ w2 (.slice A2 n2 c2) (by first | exact Below.drew (Below.refl _ W) | exact (Below.drew (Below.refl _ W)).alloc (Nat.le_refl _) _ | exact Below.drew ((Below.refl _ W).alloc (Nat.le_refl _) _)) HO2.out hb2; refine step_append (r := opR) rfl (.tmp 8) (.tmp 12) _ rfl W.heap.size 49 i0 _ 24 Try.underlying44 hi0 hz0 hz1 hz2 rfl (by decide) (S := S) (fun j hj => Nat.lt_of_lt_of_le (HSl.out j hj) hr.2.2.size) (.slice A2 n2 c2) f.ops [(k, s)] rfl hr.1 (some ⟨_, 0, none⟩) 1 1 rfl rfl hr.2.1 B1.out B2.out hr.2.2.size ?_; intro v3 w3 ho3 hg3 hat3; obtain ⟨x1, x2, y1, y2, ⟨A3, n3, c3, rfl⟩, hfin⟩ := HST.out _ w3 _ _ v3 hr ho3 hg3; have HE := Lib.hid hfin; clear hfin hr hg3 hat3 ho3)
        | (have hr := HB.out _ w2 (.slice A2 n2 c2) (by first | exact Below.drew (Below.refl _ W) | exact (Below.drew (Below.refl _ W)).alloc (Nat.le_refl _) _ | exact Below.drew ((Below.refl _ W).alloc (Nat.le_refl _) _)) (by first | exact World.alloc_heap_new W _ | exact World.alloc_heap_new W.drew _) HO2.out hb2; refine step_append (r := opR) rfl (.tmp 8) (.tmp 12) _ rfl W.heap.size 49 i0 _ 24 Try.underlying44 hi0 hz0 hz1 hz2 rfl (by decide) (S := S) (fun j hj => Nat.lt_of_lt_of_le (HSl.out j hj) hr.2.2.size) (.slice A2 n2 c2) f.ops [(k, s)] rfl hr.1 (some ⟨_, 0, none⟩) 1 1 rfl rfl hr.2.1 B1.out B2.out hr.2.2.size ?_; intro v3 w3 ho3 hg3 hat3; obtain ⟨x1, x2, y1, y2, ⟨A3, n3, c3, rfl⟩, hfin⟩ := HST.out _ w3 _ _ v3 hr ho3 hg3; have HE := Lib.hid hfin; clear hfin hr hg3 hat3 ho3))
      all_goals exact ⟨(A2, n2, c2, _, A3, n3, c3), rfl, HE.out.1, HE.out.2.1, by simpa using HE.out.2.2⟩
    rintro ⟨A2, n2, c2, g, A3, n3, c3⟩ W1 ⟨hmo, hf, S2, hl, hS2⟩
    have HS := Lib.hid (HSET.out W1 S2 _ _ hmo hl hS2)
    have cm1 : W1.cell? ⟨bm, 0, none⟩ = some (.pointer (some ⟨b, 0, none⟩)) := by
      have hbm := HW.out.hm
      refine Boxed.cell (W := W1) ((hmo.block bm ?_ hbm.lt).trans hbm)
      rintro rfl
      have := hbm.symm.trans HW.out.hf; injection this with this; injection this with _ this; exact absurd this (by decide)
    have q0 : W1.cell? ⟨bf, 0, none⟩ = some (strV f.name) := cell_of_row W1 _ 0 _ _ _ hf
    have q1 : W1.cell? ⟨bf, 1, none⟩ = some (strV f.data) := cell_of_row W1 _ 1 _ _ _ hf
    have q2 : W1.cell? ⟨bf, 2, none⟩ = some (.slice A3 n3 c3) := cell_of_row W1 _ 2 _ _ _ hf
    clear hmo hf hl hS2 cs ca cm f0 f1 f2 HSET
    dsimp only
    go_wp2_with fail
    refine HS.out.mono ?_
    rintro e W' ⟨rfl, hq⟩
    have HQ := Lib.hid hq
    clear hq
    go_wp2_with fail
    go_end0
    refine ⟨rfl, ?_⟩
    rw [HM.out]; exact HQ.out

end Go.Proofs.Ytaalhhgjliofaaa
