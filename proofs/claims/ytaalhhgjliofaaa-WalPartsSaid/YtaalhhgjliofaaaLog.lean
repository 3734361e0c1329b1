/- Contracts of the program's log (silo/wal): what is there, acts one behind the other. -/
import Derived.Test.YtaalhhgjliofaaaSync
import Derived.Test.YtaalhhgjliofaaaErr
import Derived.Test.YtaalhhgjliofaaaScan
set_option linter.unusedVariables false
set_option linter.unusedSimpArgs false
set_option maxRecDepth 100000
namespace Go.Proofs.Ytaalhhgjliofaaa
open Go.RowKit Go.Shelf

/-- A disk whose log can be read and written. -/
structure LogOk (d : DiskM) (t : List UInt8) : Prop where
  len : d.files.length < 8
  few : ∀ f ∈ d.files, FileFew f
  fuse : -1 ≤ d.fuse ∧ d.fuse ≤ 1048576
  pos : (d.find t).2 = true ∨ (d.find t).1 = d.files.length
  ops : (d.fileOr t).ops.length < 200
  txt : (d.read t).1.length ≤ 196608

theorem log_any (S : Nat → Prop) (fv : Value) (d : DiskM) (w : World) (hf : Lst fileR w S fv d.files) (hS : ∀ k, S k → k < w.heap.size) (hok : LogOk d logN) :
    Calls Try.prog 10 #[.agg #[fv, .bool d.off, .int .i64 d.fuse]] w fun e w' => ∃ v, e = .returned (.tuple #[strV d.log, v, .int .i64 (scanN d.log)]) ∧ Lst strR w' (fun k => v.ownBlock = some k) v (scanT d.log) ∧ (∀ k, v.ownBlock = some k → w.heap.size ≤ k ∧ k < w'.heap.size) ∧ Below w.heap.size w w' := by
  obtain ⟨A, n, c, rfl, hn, hnc, hcm⟩ := hf.form
  have HN := Lib.hid hn
  clear hn
  have h1 := hok.len
  have h2 := hok.few
  have h3 : d.log.length ≤ 196608 := hok.txt
  have HB := Lib.hid ((Below.refl _ w).alloc (Nat.le_refl _) (.cells #[.slice A n c, .bool d.off, .int .i64 d.fuse] 28))
  have HRD := Lib.hid (read_any S (.slice A n c) d logN _ (hf.keep (fun k hk => HB.out.block k (hS k hk))) (fun k hk => by have := hS k hk; have := HB.out.size; omega) (by omega) h2)
  have hsz := bt_size d.log
  have HSC := Lib.hid (fun W => scan_any (bt d.log) W (by omega))
  have FIN : Hid (∀ W1 W2 v, Below (w.alloc (.cells #[.slice A n c, .bool d.off, .int .i64 d.fuse] 28)).heap.size (w.alloc (.cells #[.slice A n c, .bool d.off, .int .i64 d.fuse] 28)) W1 → Below W1.heap.size W1 W2 → Own strR W2 W1.heap.size 9 (fun _ => False) v (scanT d.log) → ∃ v', Ending.returned (Value.tuple #[strV d.log, v, .int .i64 (scanN d.log)]) = .returned (.tuple #[strV d.log, v', .int .i64 (scanN d.log)]) ∧ Lst strR W2 (fun k => v'.ownBlock = some k) v' (scanT d.log) ∧ (∀ k, v'.ownBlock = some k → w.heap.size ≤ k ∧ k < W2.heap.size) ∧ Below w.heap.size w W2) := by
    intro W1 W2 v hb1 hb2 ho
    have hz := HB.out.size
    have hz1 := hb1.size
    refine ⟨v, rfl, ho.read.mono (fun k hk => by simpa using hk), fun k hk => ?_, (HB.out.trans (hb1.mono hz)).trans (hb2.mono (by omega))⟩
    have := ho.lt k hk
    omega
  rw [show d.read logN = (d.log, (d.read logN).2) from rfl] at HRD
  clear h1 h2 h3
  go_enter Try.func10, Try.ntmps10
  go_wp2_with fail
  refine HRD.out.mono ?_
  rintro e w1 ⟨rfl, hb1⟩
  simp only [strV]
  go_wp2_with fail
  refine (HSC.out w1).mono ?_
  rintro e w2 ⟨v, rfl, ho, hb2⟩
  rw [bt_list] at *
  have HF := Lib.hid (FIN.out w1 w2 v hb1 hb2 ho)
  obtain ⟨A2, n2, c2, rfl, -⟩ := ho.read.form
  clear ho hb1 hb2
  go_wp2_with fail
  go_ret3
  exact HF.out

theorem load_any (S : Nat → Prop) (fv : Value) (d : DiskM) (w : World) (hf : Lst fileR w S fv d.files) (hS : ∀ k, S k → k < w.heap.size) (hok : LogOk d logN) :
    Calls Try.prog 9 #[.agg #[fv, .bool d.off, .int .i64 d.fuse]] w fun e w' => ∃ v, e = .returned v ∧ Lst strR w' (fun k => v.ownBlock = some k) v (scanT d.log) ∧ (∀ k, v.ownBlock = some k → w.heap.size ≤ k ∧ k < w'.heap.size) ∧ Below w.heap.size w w' := by
  obtain ⟨A, n, c, rfl, hn, hnc, hcm⟩ := hf.form
  have HN := Lib.hid hn
  clear hn
  have HB := Lib.hid ((Below.refl _ w).alloc (Nat.le_refl _) (.cells #[.slice A n c, .bool d.off, .int .i64 d.fuse] 28))
  have HLG := Lib.hid (log_any S (.slice A n c) d _ (hf.keep (fun k hk => HB.out.block k (hS k hk))) (fun k hk => by have := hS k hk; have := HB.out.size; omega) hok)
  have hz := HB.out.size
  go_enter Try.func9, Try.ntmps9
  go_wp2_with fail
  refine HLG.out.mono ?_
  rintro e w1 ⟨v, rfl, hl, hlt, hb1⟩
  have HF : Hid (∃ v', Ending.returned v = .returned v' ∧ Lst strR w1 (fun k => v'.ownBlock = some k) v' (scanT d.log) ∧ (∀ k, v'.ownBlock = some k → w.heap.size ≤ k ∧ k < w1.heap.size) ∧ Below w.heap.size w w1) :=
    ⟨v, rfl, hl, fun k hk => by have := hlt k hk; omega, HB.out.trans (hb1.mono hz)⟩
  obtain ⟨A2, n2, c2, rfl, -⟩ := hl.form
  clear hl hlt hb1
  simp only [strV]
  go_wp2_with fail
  go_ret
  exact HF.out

end Go.Proofs.Ytaalhhgjliofaaa
