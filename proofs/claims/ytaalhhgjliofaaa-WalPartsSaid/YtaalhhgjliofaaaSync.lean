/- The contract of the program's Sync (silo/disk). -/
import Derived.Test.YtaalhhgjliofaaaWr2
import Derived.Deep.RegionHeld3
set_option linter.unusedVariables false
set_option linter.unusedSimpArgs false
set_option maxRecDepth 100000
namespace Go.Proofs.Ytaalhhgjliofaaa
open Go.RowKit Go.Shelf

/-- What a closure that sets one file leaves. -/
def SetPost (W : World) (S : Nat → Prop) (b : Nat) (fv : Value) (off : Bool) (fuse : Int) (fs2 : List FileM) (e : Ending) (W' : World) : Prop :=
  e = .returned (.tuple #[]) ∧ ∃ fv2 S2, Mach W' b fv2 off fuse ∧ Lst fileR W' S2 fv2 fs2 ∧ (∀ k, S2 k → k < W'.heap.size ∧ (S k ∨ fv.ownBlock = some k ∨ W.heap.size ≤ k)) ∧ Mods (fun k => k = b ∨ fv.ownBlock = some k) W W'
theorem set_flat {W W1 : World} {S : Nat → Prop} {b base : Nat} {f : FileM} {fv : Value} {off : Bool} {fuse : Int} {fs : List FileM} (hm : Mach W b fv off fuse) (ho : Own fileR W base 46 S fv fs) (hS : ∀ k, S k → k < W.heap.size) (hbS : ¬ S b) (hbase : base ≤ W.heap.size) (hlen : fs.length ≤ 1000000)
    (hb : Below W.heap.size W W1) (hf0 : f.ops = []) (hk : (bsL (fs.map (·.name)) f.name).2 = true ∨ (bsL (fs.map (·.name)) f.name).1 = fs.length) :
    Calls Try.prog 39 #[.pointer (some ⟨b, 0, none⟩), .agg #[strV f.name, strV f.data, .slice none 0 0]] W1 (SetPost W S b fv off fuse (setF fs f)) := by
  have hbl : b < W.heap.size := (Array.getElem?_eq_some_iff.1 hm).1
  have hz := hb.size
  have hlt := ho.lt
  refine (set_any S base b fv off fuse fs f (.slice none 0 0) W1 ((hb.block _ hbl).trans hm) (ho.same (fun k hk => hb.block k (by
    rcases hk with h | h
    · exact hS k h
    · exact (hlt k h).2))) (fun k hk => by have := hS k hk; omega) hbS (by omega) hlen (by rw [hf0]; exact Lst.nil _ _ _) hk).mono ?_
  rintro e W' ⟨fv2, rfl, hm2, ho2, hmo2, hat⟩
  refine ⟨rfl, fv2, _, hm2, ho2.read, ?_, (mods_of_below hb).trans hmo2⟩
  have hz2 := hmo2.size
  rintro k (h | h)
  · exact ⟨by have := hS k h; omega, .inl h⟩
  · refine ⟨(ho2.lt k h).2, ?_⟩
    rcases hat with e | ⟨k', e, hk'⟩
    · exact .inr (.inl (e ▸ h))
    · rw [e] at h; injection h with h; exact .inr (.inr (by omega))

theorem sync1_any (S : Nat → Prop) (bd bn bm b base : Nat) (A : Option Addr) (n c : Nat) (fv : Value) (d : DiskM) (t : List UInt8) (fuse : Int) (W : World) (hd : W.heap[bd]? = some (.cells #[.slice A n c, .bool d.off, .int .i64 d.fuse] 28 (0, 0))) (hn : Boxed W bn 9 (strV t)) (hp : Boxed W bm 62 (.pointer (some ⟨b, 0, none⟩)))
    (hm : Mach W b fv d.off fuse) (ho : Own fileR W base 46 S fv d.files) (hl : Lst fileR W S (.slice A n c) d.files) (hS : ∀ k, S k → k < W.heap.size) (hbS : ¬ S b) (hbase : base ≤ W.heap.size) (hlen : d.files.length ≤ 1000000) (hfew : ∀ f ∈ d.files, FileFew f)
    (hk : (d.find t).2 = true ∨ (d.find t).1 = d.files.length) :
    Calls Try.prog 41 #[.pointer (some ⟨bd, 0, none⟩), .pointer (some ⟨bn, 0, none⟩), .pointer (some ⟨bm, 0, none⟩)] W (SetPost W S b fv d.off fuse (setF d.files ⟨t, (d.read t).1, []⟩)) := by
  have c0 : W.cell? ⟨bd, 0, none⟩ = some (.slice A n c) := cell_of_row W _ 0 _ _ _ hd
  have c1 : W.cell? ⟨bd, 1, none⟩ = some (.bool d.off) := cell_of_row W _ 1 _ _ _ hd
  have c2 : W.cell? ⟨bd, 2, none⟩ = some (.int .i64 d.fuse) := cell_of_row W _ 2 _ _ _ hd
  have c3 : W.cell? ⟨bn, 0, none⟩ = some (.string (bt t)) := hn.cell
  have HSET := Lib.hid (fun W1 hb => set_flat (W1 := W1) (f := ⟨t, (d.read t).1, []⟩) hm ho hS hbS hbase hlen hb rfl hk)
  go_enter Try.func41, Try.ntmps41
  go_wp2_with fail
  refine (read_any S (.slice A n c) d t W hl hS hlen hfew).mono ?_
  rintro e W1 ⟨rfl, hb⟩
  have q0 : W1.cell? ⟨bm, 0, none⟩ = some (.pointer (some ⟨b, 0, none⟩)) := Boxed.cell (W := W1) ((hb.block _ hp.lt).trans hp)
  have q1 : W1.cell? ⟨bn, 0, none⟩ = some (.string (bt t)) := Boxed.cell (W := W1) ((hb.block _ hn.lt).trans hn)
  clear c0 c1 c2 c3
  simp only [strV]
  go_wp2_with fail
  refine (HSET.out W1 hb).mono ?_
  rintro e W' hq
  have he := hq.1
  subst he
  have HQ := Lib.hid hq
  clear hq
  go_wp2_with fail
  go_end0
  exact HQ.out

/-- What the call of act in Sync leaves. -/
theorem sync_act {W : World} {S : Nat → Prop} {bd bn bm b : Nat} {A : Option Addr} {n c : Nat} {d : DiskM} {t : List UInt8} {wrong : Nat} (hd : W.heap[bd]? = some (.cells #[.slice A n c, .bool d.off, .int .i64 d.fuse] 28 (0, 0))) (hn : Boxed W bn 9 (strV t)) (hm : Mach W b (.slice A n c) d.off d.fuse) (hp : Boxed W bm 62 (.pointer (some ⟨b, 0, none⟩)))
    (hl : Lst fileR W S (.slice A n c) d.files) (hS : ∀ k, S k → k < W.heap.size) (hbS : ¬ S b)
    (hlen : d.files.length ≤ 1000000) (hfew : ∀ f ∈ d.files, FileFew f) (hfu : -1 ≤ d.fuse ∧ d.fuse ≤ 1048576) (hk : (d.find t).2 = true ∨ (d.find t).1 = d.files.length) :
    Calls Try.prog 36 #[.pointer (some ⟨b, 0, none⟩), .int .i64 wrong, .func (.func 41) #[] #[.pointer (some ⟨bd, 0, none⟩), .pointer (some ⟨bn, 0, none⟩), .pointer (some ⟨bm, 0, none⟩)]] W fun e w' =>
      ∃ v S', e = .returned (.tuple #[v, .int .i64 (actD d wrong (setF d.files ⟨t, (d.read t).1, []⟩)).2]) ∧ DiskV w' S' v (actD d wrong (setF d.files ⟨t, (d.read t).1, []⟩)).1 ∧ (∀ k, S' k → k < w'.heap.size ∧ (S k ∨ W.heap.size ≤ k)) ∧ Mods (fun k => k = b) W w' := by
  have hbl : b < W.heap.size := (Array.getElem?_eq_some_iff.1 hm).1
  refine (act_any 41 _ S (fun _ => False) b _ d (setF d.files ⟨t, (d.read t).1, []⟩) wrong W hm hl hS hbS (fun k hk => hk.elim) hlen hfu (enters_of Try.func41 (by kernel_rfl) rfl _) ?_).mono ?_
  · intro hoff _ hf0 W1 fv' fuse' hmo hlt hm1 ho1
    have hz := hmo.size
    have hbd : bd ≠ b := by rintro rfl; have := hd.symm.trans hm; injection this with this; injection this with _ this; exact absurd this (by decide)
    have hbn : bn ≠ b := by rintro rfl; have := hn.symm.trans hm; injection this with this; injection this with _ this; exact absurd this (by decide)
    have hbm : bm ≠ b := by rintro rfl; have := hp.symm.trans hm; injection this with this; injection this with _ this; exact absurd this (by decide)
    have hlt1 := ho1.lt
    have hdl : bd < W.heap.size := (Array.getElem?_eq_some_iff.1 hd).1
    refine (sync1_any S bd bn bm b _ A n c fv' d t fuse' W1 ((hmo.block _ hbd hdl).trans hd) ((hmo.block _ hbn hn.lt).trans hn) ((hmo.block _ hbm hp.lt).trans hp) hm1 ho1 (hl.keep (fun k hk => hmo.block k (fun e => hbS (e ▸ hk)) (hS k hk))) (fun k hk => Nat.lt_of_lt_of_le (hS k hk) hz) hbS (by omega) hlen hfew hk).mono ?_
    rintro e W2 ⟨rfl, fv2, S2, h1, h2, h3, h4⟩
    refine ⟨rfl, fv2, S2, h1, h2, fun k hk => ?_, h4.imp ?_⟩
    · obtain ⟨q1, q2⟩ := h3 k hk
      refine ⟨q1, ?_⟩
      rcases q2 with h | h | h
      · exact .inl h
      · have := (hlt1 _ h).1; exact .inr (by omega)
      · exact .inr (by omega)
    · rintro k - hk (h | h)
      · exact hk (.inl h)
      · exact hk (.inr (.inr h))
  · rintro e w' ⟨v, S', rfl, h1, h2, h3⟩
    exact ⟨v, S', rfl, h1, h2, h3.imp (fun k _ hk h => by rcases h with h | h; exact hk h; exact h)⟩

set_option maxHeartbeats 4000000 in
theorem sync_any (S : Nat → Prop) (fv : Value) (d : DiskM) (t : List UInt8) (w : World) (hf : Lst fileR w S fv d.files) (hS : ∀ k, S k → k < w.heap.size)
    (hlen : d.files.length ≤ 1000000) (hfew : ∀ f ∈ d.files, FileFew f) (hfu : -1 ≤ d.fuse ∧ d.fuse ≤ 1048576) (hk : (d.find t).2 = true ∨ (d.find t).1 = d.files.length) :
    Calls Try.prog 25 #[.agg #[fv, .bool d.off, .int .i64 d.fuse], strV t] w fun e w' =>
      DPost w S (d.sync t) e w' := by
  obtain ⟨A, n, c, rfl, hn, hnc, hcm⟩ := hf.form
  have HN := Lib.hid hn
  clear hn
  obtain ⟨w7, hw7⟩ : ∃ w7, ((((w.alloc (.cells #[.slice A n c, .bool d.off, .int .i64 d.fuse] 28)).alloc (.cells #[.string (bt t)] 9)).alloc (.cells #[.slice none 0 0, .bool false, .int .i64 0] 28)).alloc (.cells #[.slice A n c, .bool d.off, .int .i64 d.fuse] 64)).alloc (.cells #[.pointer (some ⟨w.heap.size + 1 + 1 + 1, 0, none⟩)] 62) = w7 := ⟨_, rfl⟩
  have hb7 : Below w.heap.size w w7 := by
    rw [← hw7]; exact (((((Below.refl _ w).alloc (Nat.le_refl _) _).alloc (by simp) _).alloc (by simp; omega) _).alloc (by simp; omega) _).alloc (by simp; omega) _
  have hz7 : w7.heap.size = w.heap.size + 5 := by rw [← hw7]; simp
  have hd7 : w7.heap[w.heap.size]? = some (.cells #[.slice A n c, .bool d.off, .int .i64 d.fuse] 28 (0, 0)) := by rw [← hw7]; repeat (first | exact heap_new (by simp) _ | apply heap_old)
  have hn7 : Boxed w7 (w.heap.size + 1) 9 (strV t) := by rw [← hw7]; unfold Boxed; repeat (first | exact heap_new (by simp) _ | apply heap_old)
  have hr7 : w7.heap[w.heap.size + 1 + 1]? = some (.cells #[.slice none 0 0, .bool false, .int .i64 0] 28 (0, 0)) := by rw [← hw7]; repeat (first | exact heap_new (by simp) _ | apply heap_old)
  have hm7 : Mach w7 (w.heap.size + 1 + 1 + 1) (.slice A n c) d.off d.fuse := by rw [← hw7]; repeat (first | exact heap_new (by simp) _ | apply heap_old)
  have hp7 : Boxed w7 (w.heap.size + 1 + 1 + 1 + 1) 62 (.pointer (some ⟨w.heap.size + 1 + 1 + 1, 0, none⟩)) := by rw [← hw7]; unfold Boxed; repeat (first | exact heap_new (by simp) _ | apply heap_old)
  have hl7 : Lst fileR w7 S (.slice A n c) d.files := hf.keep (fun k hk => hb7.block k (hS k hk))
  have HMISS := Lib.hid (fun W0 (h : Below w7.heap.size w7 W0) => missing_any S _ _ d.off d.fuse d.files t W0 ((h.block _ (by omega)).trans hm7) (hl7.keep (fun k hk => h.block k (by have := hS k hk; omega))) (fun k hk => by have := hS k hk; have := h.size; omega) hlen)
  have HACT := Lib.hid (fun W0 (h : Below w7.heap.size w7 W0) => sync_act (t := t) (wrong := noneE (bsL (d.files.map (·.name)) t).2) ((h.block _ (by omega)).trans hd7) ((h.block _ (by omega)).trans hn7) ((h.block _ (by omega)).trans hm7) ((h.block _ (by omega)).trans hp7) (hl7.keep (fun k hk => h.block k (by have := hS k hk; omega))) (fun k hk => by have := hS k hk; have := h.size; omega) (fun h => by have := hS _ h; omega) hlen hfew hfu hk)
  have HBL := Lib.hid (fun W0 (h : Below w7.heap.size w7 W0) => (show W0.cell? ⟨w.heap.size + 1 + 1 + 1 + 1, 0, none⟩ = some (.pointer (some ⟨w.heap.size + 1 + 1 + 1, 0, none⟩)) ∧ W0.cell? ⟨w.heap.size + 1, 0, none⟩ = some (.string (bt t)) from ⟨Boxed.cell (W := W0) ((h.block _ (by omega)).trans hp7), Boxed.cell (W := W0) ((h.block _ (by omega)).trans hn7)⟩))
  have HS : Hid (d.sync t = actD d (noneE (bsL (d.files.map (·.name)) t).2) (setF d.files ⟨t, (d.read t).1, []⟩)) := rfl
  have HBM := Lib.hid (fun W0 W1 (h : Below w7.heap.size w7 W0) (hm : Mods (fun k => k = w.heap.size + 1 + 1 + 1) W0 W1) => (show
    (W1.cell? ⟨w.heap.size + 1 + 1 + 1 + 1, 0, none⟩ = some (.pointer (some ⟨w.heap.size + 1 + 1 + 1, 0, none⟩)) ∧ W1.cell? ⟨w.heap.size + 1, 0, none⟩ = some (.string (bt t))) ∧
    W1.heap[w.heap.size + 1 + 1]? = some (.cells #[.slice none 0 0, .bool false, .int .i64 0] 28 (0, 0)) from
      ⟨⟨Boxed.cell (W := W1) ((hm.block _ (by omega) (by have := h.size; omega)).trans ((h.block _ (by omega)).trans hp7)), Boxed.cell (W := W1) ((hm.block _ (by omega) (by have := h.size; omega)).trans ((h.block _ (by omega)).trans hn7))⟩,
       (hm.block _ (by omega) (by have := h.size; omega)).trans ((h.block _ (by omega)).trans hr7)⟩))
  have HFIN := Lib.hid (fun W0 W1 fv2 d1 S' (h : Below w7.heap.size w7 W0) (hm : Mods (fun k => k = w.heap.size + 1 + 1 + 1) W0 W1) (hl : Lst fileR W1 S' fv2 (DiskM.files d1)) hSZ => write_fin (w := w) (d1 := d1) (b := w.heap.size + 1 + 1 + 1) (bf := w.heap.size + 1 + 1 + 1) hb7 h (hm.imp (fun k _ hk h => hk (.inl h))) hl hSZ (HBM.out W0 W1 h hm).2 (by omega) (by omega) (by omega) (by have := h.size; omega) hS)
  obtain ⟨c1, c2⟩ := HBL.out w7 (Below.refl _ _)
  have HW7 := Lib.hid hw7
  clear hw7
  go_enter Try.func25, Try.ntmps25
  simp only [strV]
  go_wp2_with fail
  rw [HW7.out]
  go_region_held3 (fun w' => w'.cell? ⟨w.heap.size + 1 + 1 + 1 + 1, 0, none⟩ = some (.pointer (some ⟨w.heap.size + 1 + 1 + 1, 0, none⟩)) ∧ w'.cell? ⟨w.heap.size + 1, 0, none⟩ = some (.string (bt t))) (first | exact k1 | exact k2 | go_keep) (first
    | (go_at_call 40; refine (HMISS.out _ (Below.drew (Below.refl _ w7))).mono ?_; rintro e wA ⟨rfl, hbA⟩; have k1 := HBL.out wA ((Below.drew (Below.refl _ w7)).trans hbA))
    | (go_at_call 36; refine (HACT.out _ ((Below.drew (Below.refl _ w7)).trans hbA)).mono ?_; rintro e wZ ⟨v', S', rfl, ⟨fv2, rfl, hlZ⟩, hSZ, hmoZ⟩; obtain ⟨k2, hrZ⟩ := HBM.out _ wZ ((Below.drew (Below.refl _ w7)).trans hbA) hmoZ; have HE := Lib.hid (HFIN.out _ wZ _ _ _ ((Below.drew (Below.refl _ w7)).trans hbA) hmoZ hlZ hSZ); obtain ⟨A3, n3, c3', rfl, -⟩ := hlZ.form; have r0 : wZ.cell? ⟨w.heap.size + 1 + 1, 0, none⟩ = some (.slice none 0 0) := cell_of_row wZ _ 0 _ _ _ hrZ; have r1 : wZ.cell? ⟨w.heap.size + 1 + 1, 1, none⟩ = some (.bool false) := cell_of_row wZ _ 1 _ _ _ hrZ; have r2 : wZ.cell? ⟨w.heap.size + 1 + 1, 2, none⟩ = some (.int .i64 0) := cell_of_row wZ _ 2 _ _ _ hrZ; have r3 : wZ.frozen? ⟨w.heap.size + 1 + 1, 0, none⟩ = false := frozen_of_row wZ _ 0 _ _ hrZ; have r4 : wZ.frozen? ⟨w.heap.size + 1 + 1, 1, none⟩ = false := frozen_of_row wZ _ 1 _ _ hrZ; have r5 : wZ.frozen? ⟨w.heap.size + 1 + 1, 2, none⟩ = false := frozen_of_row wZ _ 2 _ _ hrZ; clear hlZ hSZ hmoZ hrZ))
  all_goals go_wp2_with fail
  all_goals obtain ⟨S9, f1, f2, f3⟩ := HE.out (.slice A3 n3 c3') (.bool (actD d (noneE (bsL (d.files.map (·.name)) t).2) (setF d.files ⟨t, (d.read t).1, []⟩)).1.off) (.int .i64 (actD d (noneE (bsL (d.files.map (·.name)) t).2) (setF d.files ⟨t, (d.read t).1, []⟩)).1.fuse)
  all_goals refine bodyPost_ret (v := .tuple #[.agg #[.slice A3 n3 c3', .bool (actD d (noneE (bsL (d.files.map (·.name)) t).2) (setF d.files ⟨t, (d.read t).1, []⟩)).1.off, .int .i64 (actD d (noneE (bsL (d.files.map (·.name)) t).2) (setF d.files ⟨t, (d.read t).1, []⟩)).1.fuse], .int .i64 (actD d (noneE (bsL (d.files.map (·.name)) t).2) (setF d.files ⟨t, (d.read t).1, []⟩)).2]) ?_ rfl ?_
  all_goals first
    | (rw [HS.out]; exact ⟨_, S9, rfl, ⟨_, rfl, f1⟩, f2, f3⟩)
    | simp [results, Try.results25, go_sem, r0, r1, r2]

end Go.Proofs.Ytaalhhgjliofaaa
