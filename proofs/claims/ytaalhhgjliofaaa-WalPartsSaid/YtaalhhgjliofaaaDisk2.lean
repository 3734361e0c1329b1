/- Contracts of the program's disk (silo/disk): what is seen of a file. -/
import Derived.Test.YtaalhhgjliofaaaDisk1
import Derived.Test.YtaalhhgjliofaaaShelf
import Derived.Test.YtaalhhgjliofaaaRel
import Derived.Deep.QuietTactic
import Derived.BigQuiet
set_option linter.unusedVariables false
set_option linter.unusedSimpArgs false
set_option maxRecDepth 100000
namespace Go.Proofs.Ytaalhhgjliofaaa
open Go.RowKit Go.Shelf

theorem repeat_zero (n : Nat) : Lib.repeatL [0] n = List.replicate n (0 : UInt8) := by
  induction n with
  | zero => rfl
  | succ n ih => rw [Lib.repeatL, ih, List.replicate_succ]; rfl

theorem lay_text {u t : List UInt8} {k : Nat} (h : k + t.length ≤ u.length) : (bt u).extract 0 k ++ bt t ++ (bt u).extract (k + t.length) u.length = bt (u.take k ++ t ++ u.drop (k + t.length)) := by
  apply ByteArray.ext
  simp [bt, ← Array.toList_inj, List.extract]
  rw [List.take_of_length_le (by simp)]
theorem lay_any (s : List UInt8) (k : Nat) (t : List UInt8) (w : World) (hs : s.length ≤ 1099511627776) (hk : k ≤ 1099511627776) (ht : t.length ≤ 1099511627776) :
    Calls Try.prog 45 #[strV s, .agg #[.int .i64 k, strV t]] w fun e w' => e = .returned (strV (layL s k t)) ∧ Below w.heap.size w w' := by
  have es := bt_size s
  have et := bt_size t
  have hw1 : IntKind.i64.wrap ((k : Int) + (t.length : Int)) = (k : Int) + t.length := IntWalk.i64_in _ (by omega)
  have hw2 : IntKind.i64.wrap ((k : Int) + (t.length : Int) - s.length) = (k : Int) + t.length - s.length := IntWalk.i64_in _ (by omega)
  by_cases hn : s.length < k + t.length
  · have hd : decide (0 < (k : Int) + t.length - s.length) = true := decide_eq_true (by omega)
    go_enter Try.func45, Try.ntmps45
    simp only [strV]
    go_wp2_with fail
    have hc : ((k : Int) + t.length - s.length) = ((k + t.length - s.length : Nat) : Int) := by omega
    rw [hc]
    refine (Try.strings_Repeat ⟨#[0]⟩ (k + t.length - s.length) _ (by omega) (by show 1 * _ ≤ _; omega)).mono ?_
    rintro e w1 ⟨rfl, hb1⟩
    have hr : (⟨(Lib.repeatL (⟨#[0]⟩ : ByteArray).data.toList (k + t.length - s.length)).toArray⟩ : ByteArray) = bt (List.replicate (k + t.length - s.length) 0) := by
      rw [show (⟨#[0]⟩ : ByteArray).data.toList = [0] from rfl, repeat_zero]; rfl
    rw [hr]
    have er := bt_size (List.replicate (k + t.length - s.length) (0 : UInt8))
    rw [List.length_replicate] at er
    have h1 : w1.heap[w.heap.size]? = some (.cells #[.int .i64 k, .string (bt t)] 49 (0, 0)) := (hb1.block _ (by simp)).trans (World.alloc_heap_new w _)
    have c0 : w1.cell? ⟨w.heap.size, 0, none⟩ = some (.int .i64 k) := cell_of_row w1 _ 0 _ _ _ h1
    have c1 : w1.cell? ⟨w.heap.size, 1, none⟩ = some (.string (bt t)) := cell_of_row w1 _ 1 _ _ _ h1
    have happ : bt s ++ bt (List.replicate (k + t.length - s.length) 0) = bt (s ++ List.replicate (k + t.length - s.length) 0) := by
      apply ByteArray.ext; simp [bt]
    go_wp2_with fail
    obtain ⟨u, hu⟩ : ∃ u, u = s ++ List.replicate (k + t.length - s.length) (0 : UInt8) := ⟨_, rfl⟩
    have hul : k + t.length ≤ u.length := by rw [hu]; simp; omega
    have hum : u.length ≤ 3299511627776 := by rw [hu]; simp; omega
    have hut := Lib.hid (show layL s k t = u.take k ++ t ++ u.drop (k + t.length) by rw [hu]; rfl)
    rw [← hu]
    have HB := Lib.hid (fun nq => (((Below.refl _ w).alloc (Nat.le_refl _) (.cells #[.int .i64 k, .string (bt t)] 49)).trans (hb1.mono (by simp))).trans (below_drewN (Below.refl _ w1) nq))
    have eu := bt_size u
    clear hu
    have e1 : (k : Int) ≤ (u.length : Int) := by omega
    have e2 : (k : Int) + t.length ≤ (u.length : Int) := by omega
    have e3 : ((k : Int) + t.length).toNat = k + t.length := by omega
    have e4 : (0 : Int) ≤ (k : Int) + t.length := by omega
    have n1 : ((bt u).extract 0 k).size = k := by simp; omega
    have n2 : (((bt u).extract 0 k) ++ bt t).size = k + t.length := by rw [ByteArray.size_append, n1, et]
    have n3 : ((bt u).extract (k + t.length) (bt u).size).size = u.length - (k + t.length) := by simp; omega
    have mixed : Try.prog.follows .mixedOrders = true := by kernel_rfl
    go_wp2_with fail
    go_quiet (fail)
    go_wp2_with fail
    go_ret
    refine ⟨?_, HB.out nq⟩
    rw [hut.out]
    exact congrArg (fun x => Ending.returned (.string x)) (lay_text hul)
  · obtain ⟨u, hu⟩ : ∃ u, u = s ++ List.replicate (k + t.length - s.length) (0 : UInt8) := ⟨_, rfl⟩
    have hd : decide (0 < (k : Int) + t.length - s.length) = false := decide_eq_false (by omega)
    have hul : k + t.length ≤ u.length := by rw [hu]; simp; omega
    have hum : u.length ≤ 3299511627776 := by rw [hu]; simp; omega
    have hut := Lib.hid (show layL s k t = u.take k ++ t ++ u.drop (k + t.length) by rw [hu]; rfl)
    have hus : u = s := by rw [hu, show k + t.length - s.length = 0 by omega]; simp
    subst hus
    clear hu
    have HB := Lib.hid (fun nq => ((Below.refl _ w).alloc (Nat.le_refl _) (.cells #[.int .i64 k, .string (bt t)] 49)).trans (below_drewN (Below.refl _ (w.alloc (.cells #[.int .i64 k, .string (bt t)] 49))) nq))
    have eu := bt_size u
    have e1 : (k : Int) ≤ (u.length : Int) := by omega
    have e2 : (k : Int) + t.length ≤ (u.length : Int) := by omega
    have e3 : ((k : Int) + t.length).toNat = k + t.length := by omega
    have e4 : (0 : Int) ≤ (k : Int) + t.length := by omega
    have n1 : ((bt u).extract 0 k).size = k := by simp; omega
    have n2 : (((bt u).extract 0 k) ++ bt t).size = k + t.length := by rw [ByteArray.size_append, n1, et]
    have n3 : ((bt u).extract (k + t.length) (bt u).size).size = u.length - (k + t.length) := by simp; omega
    have mixed : Try.prog.follows .mixedOrders = true := by kernel_rfl
    go_enter Try.func45, Try.ntmps45
    simp only [strV]
    go_wp2_with fail
    go_quiet (fail)
    go_wp2_with fail
    go_ret
    refine ⟨?_, HB.out nq⟩
    rw [hut.out]
    exact congrArg (fun x => Ending.returned (.string x)) (lay_text hul)

/-- The cells of the k-th write of a list. -/
theorem op_at {w : World} {S : Nat → Prop} {A : Option Addr} {n c k : Nat} {os : List (Nat × List UInt8)} (hf : Lst opR w S (.slice A n c) os) (hS : ∀ k, S k → k < w.heap.size) (hk : k < os.length) :
    ∃ ad, A = some ad ∧ ad.block < w.heap.size ∧ ∀ w', Below w.heap.size w w' → w'.cell? (ad.add (k * 2)) = some (.int .i64 os[k].1) ∧ w'.cell? ⟨(ad.add (k * 2)).block, (ad.add (k * 2)).off + 1, none⟩ = some (strV os[k].2) := by
  obtain ⟨ad, cs, rfl, hs, hrd, hc⟩ := hf.at_ (List.getElem?_eq_getElem hk)
  have hrd : cs = opV os[k] := hrd
  subst hrd
  have hlt := hS _ hs
  refine ⟨ad, rfl, hlt, fun w' hb => ?_⟩
  have hcell : ∀ j u, (opV os[k])[j]? = some u → w'.cell? (ad.add (k * 2 + j)) = some u :=
    fun j u hu => (hb.cell (by rw [block_add]; exact hlt)).trans (hc j u hu)
  refine ⟨hcell 0 _ rfl, ?_⟩
  rw [← add_succ ad (k * 2) 0]; exact hcell 1 _ rfl
/-- A file that is not too long, whatever is seen of it. -/
def FileFew (f : FileM) : Prop := f.data.length ≤ 1099511627776 ∧ f.ops.length ≤ 1000000 ∧ ∀ o ∈ f.ops, o.1 + o.2.length ≤ 1099511627776

theorem seen_any (f : FileM) (S : Nat → Prop) (v : Value) (w : World) (hf : Lst opR w S v f.ops) (hS : ∀ k, S k → k < w.heap.size) (hfew : FileFew f) :
    Calls Try.prog 27 #[.agg #[strV f.name, strV f.data, v]] w fun e w' => e = .returned (strV (seenL f.data f.ops)) ∧ Below w.heap.size w w' := by
  obtain ⟨A, n, c, rfl, hn, hnc, hcm⟩ := hf.form
  obtain ⟨q1, q2, q3⟩ := hfew
  have HF := Lib.hid hf
  have HN := Lib.hid hn
  have hlen : n ≤ 1000000 := by omega
  have H3 := Lib.hid q3
  clear hf hn q2 q3
  go_enter Try.func27, Try.ntmps27
  go_wp2_with fail
  go_loopw [3, 11] (fun vs vi wr => ∃ i s, vs = strV s ∧ vi = .int .i64 (i : Nat) ∧ i ≤ n ∧ s = seenL f.data (f.ops.take i) ∧ s.length ≤ 1099511627776 ∧ Below w.heap.size w wr) (fun _ vi _ => n - (intOf vi).toNat)
  case atStart => exact ⟨0, f.data, rfl, rfl, Nat.zero_le _, rfl, q1, (Below.refl _ w).alloc (Nat.le_refl _) _⟩
  case round =>
    obtain ⟨i, s, rfl, rfl, hi, hs, hsl, hb⟩ := hrel
    have HS := Lib.hid hs
    clear hs
    by_cases hlt : i < n
    · have hil : i < f.ops.length := by have := HN.out; omega
      obtain ⟨ad, hA, hadlt, hcells⟩ := op_at (k := i) HF.out hS hil
      subst hA
      obtain ⟨h0, h1⟩ := hcells wr hb
      have h3 := H3.out f.ops[i] (List.getElem_mem hil)
      obtain ⟨o, ho⟩ : ∃ o, o = f.ops[i] := ⟨_, rfl⟩
      rw [← ho] at h0 h1 h3
      have HO := Lib.hid ho
      clear ho hcells
      have hd : decide ((i : Int) < (n : Int)) = true := decide_eq_true (by omega)
      go_wp2_with fail
      refine (lay_any s o.1 o.2 _ hsl (by omega) (by omega)).mono ?_
      rintro e w1 ⟨rfl, hb1⟩
      go_wp2_with fail
      go_roundw
      case rel =>
        refine ⟨i + 1, layL s o.1 o.2, rfl, by go_num, by omega, ?_, by rw [layL_length]; omega, ?_⟩
        · rw [List.take_succ_eq_append_getElem hil, ← HO.out, seenL_snoc, ← HS.out]
        · exact (hb.alloc hb.size _).trans (hb1.mono (by have := hb.size; simp; omega))
      case measure => simp [intOf]; omega
    · have hd : decide ((i : Int) < (n : Int)) = false := decide_eq_false (by omega)
      go_wp2_with fail
      go_ret
      refine ⟨?_, hb⟩
      rw [HS.out, List.take_of_length_le (by have := HN.out; omega)]
      rfl

set_option maxHeartbeats 1000000 in
theorem read_any (S : Nat → Prop) (fv : Value) (d : DiskM) (t : List UInt8) (w : World) (hf : Lst fileR w S fv d.files) (hS : ∀ k, S k → k < w.heap.size) (hlen : d.files.length ≤ 1000000) (hfew : ∀ f ∈ d.files, FileFew f) :
    Calls Try.prog 16 #[.agg #[fv, .bool d.off, .int .i64 d.fuse], strV t] w fun e w' => e = .returned (.tuple #[strV (d.read t).1, .bool (d.read t).2]) ∧ Below w.heap.size w w' := by
  obtain ⟨A, n, c, rfl, hn, hnc, hcm⟩ := hf.form
  have HN := Lib.hid hn
  clear hn
  obtain ⟨w1, hw1⟩ : ∃ w1, (w.alloc (.cells #[.slice A n c, .bool d.off, .int .i64 d.fuse] 28)).alloc (.cells #[.slice A n c, .bool d.off, .int .i64 d.fuse] 64) = w1 := ⟨_, rfl⟩
  have hb1 : Below w.heap.size w w1 := by rw [← hw1]; exact ((Below.refl _ w).alloc (Nat.le_refl _) _).alloc (by simp) _
  have hd : w1.heap[w.heap.size]? = some (.cells #[.slice A n c, .bool d.off, .int .i64 d.fuse] 28) := by rw [← hw1]; exact (Below.heap_alloc _ _ _ (by simp)).trans (World.alloc_heap_new w _)
  have hm : Mach w1 (w.heap.size + 1) (.slice A n c) d.off d.fuse := by rw [← hw1]; have := World.alloc_heap_new (w.alloc (.cells #[.slice A n c, .bool d.off, .int .i64 d.fuse] 28)) (.cells #[.slice A n c, .bool d.off, .int .i64 d.fuse] 64); rwa [World.size_alloc] at this
  have hs1 : w1.heap.size = w.heap.size + 2 := by rw [← hw1]; simp
  have hf1 : Lst fileR w1 S (.slice A n c) d.files := hf.keep (fun k hk => hb1.block k (hS k hk))
  go_enter Try.func16, Try.ntmps16
  go_wp2_with fail
  refine (at_any S _ _ _ _ d.files t w1 hm hf1 (fun k hk => by have := hS k hk; omega) hlen).mono ?_
  rintro e w2 ⟨rfl, hb2⟩
  rw [show bsL (d.files.map (·.name)) t = d.find t from rfl]
  cases hfind : (d.find t).2 with
  | false =>
    have HR : Hid (d.read t = ([], false)) := by unfold DiskM.read; rw [hfind]; rfl
    go_wp2_with fail
    go_ret2
    exact ⟨by rw [HR.out]; rfl, hb1.trans (hb2.mono hb1.size)⟩
  | true =>
    obtain ⟨f, hfk, hfn⟩ := DiskM.found hfind
    have hkl : (d.find t).1 < d.files.length := (List.getElem?_eq_some_iff.1 hfk).1
    have HR : Hid (d.read t = (seenL f.data f.ops, true)) := by unfold DiskM.read; rw [hfind, hfk]; rfl
    have hmem : f ∈ d.files := List.mem_of_getElem? hfk
    generalize (d.find t).1 = k at *
    have hkn : k < n := by have := HN.out; omega
    obtain ⟨ad, f', v, hA, hadlt, hx, hops, hcells⟩ := file_at (k := k) hf hS hkl
    rw [hfk] at hx
    injection hx with hx
    subst hx
    subst hA
    have hb12 := hb1.trans (hb2.mono hb1.size)
    obtain ⟨h0, h1, h2⟩ := hcells w2 hb12
    have hd2 : w2.cell? ⟨w.heap.size, 0, none⟩ = some (.slice (some ad) n c) := cell_of_row w2 _ 0 _ _ _ ((hb2.block _ (by omega)).trans hd)
    clear hfn hfk hw1 hd hm hs1 hf1 hfind hcells
    go_wp2_with fail
    refine (seen_any f S v w2 (hops.keep (fun k hk => hb12.block k (hS k hk))) (fun k hk => by have := hS k hk; have := hb12.size; omega) (hfew f hmem)).mono ?_
    rintro e w3 ⟨rfl, hb3⟩
    go_wp2_with fail
    go_ret2
    exact ⟨by rw [HR.out]; rfl, hb12.trans (hb3.mono hb12.size)⟩

end Go.Proofs.Ytaalhhgjliofaaa
