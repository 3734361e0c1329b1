/- Contracts of the references' disks (layer 15): a crash. -/
import Derived.Test.YtaalhhgjliofaaaRef3
import Derived.Test.YtaalhhgjliofaaaPWal
import Derived.Test.YtaalhhgjliofaaaChain
import Derived.Laws.OwnMore
import Derived.Laws.IdiomStrings
import Derived.Deep.QuietTactic
import Derived.BigQuiet
import Derived.Deep.RegionHeld3
set_option linter.unusedVariables false
set_option linter.unusedSimpArgs false
set_option maxRecDepth 100000
namespace Go.Proofs.Ytaalhhgjliofaaa
open Go.RowKit Go.Shelf

theorem info_u8 : (Try.prog.info? 5).map (fun i => (i.zero, i.size, i.bytes)) = some (some (.int .u8 0), 1, 1) := by kernel_rfl
/-- n new bytes, and the text of them. -/
theorem make_zeros (n : Nat) (w : World) (hn : n ≤ 1099511627776) : ∃ w', (Instr.makeSlice 61 (.int .i64 (n : Int)) (.int .i64 (n : Int))).run Try.prog w = .ok (.slice (some ⟨w.heap.size, 0, none⟩) n n) w' ∧
    (convert 61 9 (.slice (some ⟨w.heap.size, 0, none⟩) n n)).run Try.prog w' = .ok (.string (bt (List.replicate n 0))) w' ∧ Below w.heap.size w w' := by
  obtain ⟨i0, hi0, hz0, hz1, hz2⟩ := info_parts info_u8
  have hb' : (i0.bytes : Int) * (n : Int) ≤ 281474976710656 := by rw [hz2]; omega
  have hr := run_make (P := Try.prog) w 61 5 i0 _ Try.underlying61 hi0 hz0 .i64 .i64 n n (by omega) (Int.le_refl _) hb' (by omega)
  simp only [Int.toNat_natCast] at hr
  refine ⟨_, hr, ?_, (Below.refl _ w).alloc (Nat.le_refl _) _⟩
  have h := run_convert_bytes_back (P := Try.prog) (w.alloc (.cells (madeCells (Value.int .u8 0).cells (n * i0.size)) 5)) 61 9 5 ⟨w.heap.size, 0, none⟩ n (List.replicate n 0) Try.underlying61 Try.underlying5 Try.underlying9 (fun j hj => by
    have hadd : (⟨w.heap.size, 0, none⟩ : Addr).add j = ⟨w.heap.size, j, none⟩ := by unfold Addr.add; split <;> simp_all
    rw [hadd, World.cell?_alloc_mark, hz1, Nat.mul_one]
    simp only [List.length_replicate] at hj
    simp [madeCells, Value.cells, hj, Nat.mod_one])
  rw [List.length_replicate] at h
  exact h

set_option maxHeartbeats 1000000 in
theorem lay15_any (s : List UInt8) (k : Nat) (t : List UInt8) (w : World) (hs : s.length ≤ 1099511627776) (hk : k ≤ 1099511627776) (ht : t.length ≤ 1099511627776) :
    Calls Try.prog 15 #[strV s, .int .i64 k, strV t] w fun e w' => e = .returned (strV (layL s k t)) ∧ Below w.heap.size w w' := by
  have es := bt_size s
  have et := bt_size t
  by_cases hgt : s.length < k
  · have hd : decide ((s.length : Int) < (k : Int)) = true := decide_eq_true (by omega)
    have hw1 : IntKind.i64.wrap ((k : Int) - s.length) = (k : Int) - s.length := IntWalk.i64_in _ (by omega)
    have hc : ((k - s.length : Nat) : Int) = (k : Int) - s.length := by omega
    obtain ⟨wm, hm1, hm2, hbm⟩ := make_zeros (k - s.length) w (by omega)
    rw [hc] at hm1
    have er := bt_size (List.replicate (k - s.length) (0 : UInt8))
    rw [List.length_replicate] at er
    have happ : bt s ++ bt (List.replicate (k - s.length) 0) = bt (s ++ List.replicate (k - s.length) 0) := by apply ByteArray.ext; simp [bt]
    obtain ⟨u, hu⟩ : ∃ u, s ++ List.replicate (k - s.length) (0 : UInt8) = u := ⟨_, rfl⟩
    rw [hu] at happ
    have hul : u.length = k := by rw [← hu]; simp; omega
    have eu := bt_size u
    rw [hul] at eu
    have hw2 : IntKind.i64.wrap ((k : Int) + t.length) = (k : Int) + t.length := IntWalk.i64_in _ (by omega)
    have hg : decide ((k : Int) ≤ (k : Int) + t.length) = true := decide_eq_true (by omega)
    have HR : Hid (layL s k t = u ++ t) := by
      unfold layL
      have h1 : s ++ List.replicate (k + t.length - s.length) 0 = u ++ List.replicate t.length (0 : UInt8) := by
        rw [← hu, show k + t.length - s.length = (k - s.length) + t.length by omega, ← List.replicate_append_replicate, List.append_assoc]
      rw [h1, List.take_left' hul, List.drop_eq_nil_of_le (by simp; omega)]
      exact List.append_nil _
    have htk : (bt u).extract 0 k = bt u := by
      apply ByteArray.ext; simp [bt, List.take_of_length_le (Nat.le_of_eq hul)]
    have HC := Lib.hid hc
    have HUL := Lib.hid hul
    have HU := Lib.hid hu
    clear hc hul hu
    have hap2 : bt u ++ bt t = bt (u ++ t) := by apply ByteArray.ext; simp [bt]
    go_enter Try.func15, Try.ntmps15
    simp only [strV]
    go_wp2_with fail
    go_ret
    exact ⟨by rw [HR.out]; rfl, hbm⟩
  · have hd : decide ((s.length : Int) < (k : Int)) = false := decide_eq_false (by omega)
    have hw2 : IntKind.i64.wrap ((k : Int) + t.length) = (k : Int) + t.length := IntWalk.i64_in _ (by omega)
    have htk : (bt s).extract 0 k = bt (s.take k) := by apply ByteArray.ext; simp [bt, ← Array.toList_inj, List.extract]
    have hap2 : bt (s.take k) ++ bt t = bt (s.take k ++ t) := by apply ByteArray.ext; simp [bt]
    have e1 : (k : Int) ≤ (s.length : Int) := by omega
    by_cases hge : s.length ≤ k + t.length
    · have hg : decide ((s.length : Int) ≤ (k : Int) + t.length) = true := decide_eq_true (by omega)
      have HR : Hid (layL s k t = s.take k ++ t) := by
        unfold layL
        rw [List.take_append_of_le_length (by omega), List.drop_eq_nil_of_le (by simp; omega)]
        exact List.append_nil _
      have etk := bt_size (s.take k)
      have HET := Lib.hid (show (s.take k).length = k by simp; omega)
      rw [HET.out] at etk
      go_enter Try.func15, Try.ntmps15
      simp only [strV]
      go_wp2_with fail
      go_ret
      exact ⟨by rw [HR.out]; rfl, Below.refl _ _⟩
    · have hg : decide ((s.length : Int) ≤ (k : Int) + t.length) = false := decide_eq_false (by omega)
      have HR : Hid (layL s k t = s.take k ++ t ++ s.drop (k + t.length)) := by
        unfold layL
        rw [show k + t.length - s.length = 0 by omega]
        simp; exact trivial
      have n1 : ((bt s).extract 0 k).size = k := by simp; omega
      have n2 : (((bt s).extract 0 k) ++ bt t).size = k + t.length := by rw [ByteArray.size_append, n1, et]
      have n3 : ((bt s).extract (k + t.length) (bt s).size).size = s.length - (k + t.length) := by simp; omega
      have e2 : (k : Int) + t.length ≤ (s.length : Int) := by omega
      have e3 : ((k : Int) + t.length).toNat = k + t.length := by omega
      have e4 : (0 : Int) ≤ (k : Int) + t.length := by omega
      have mixed : Try.prog.follows .mixedOrders = true := by kernel_rfl
      have HLT := Lib.hid (lay_text (u := s) (t := t) (k := k) (by omega))
      clear htk hap2
      go_enter Try.func15, Try.ntmps15
      simp only [strV]
      go_wp2_with fail
      go_quiet (fail)
      go_wp2_with fail
      go_ret
      refine ⟨?_, below_drewN (Below.refl _ _) _⟩
      rw [HR.out]
      exact congrArg (fun x => Ending.returned (.string x)) HLT.out

def opsN (fs : List FileM) : Nat := (fs.map (·.ops.length)).sum
theorem opsN_snoc (fs : List FileM) (f : FileM) : opsN (fs ++ [f]) = opsN fs + f.ops.length := by simp [opsN]
theorem crashFs_snoc : ∀ (fs : List FileM) (f : FileM) (keep : List Bool), crashFs (fs ++ [f]) keep = crashFs fs keep ++ [⟨f.name, keptOps f.data f.ops (keep.drop (opsN fs)), []⟩] := by
  intro fs
  induction fs with
  | nil => intro f keep; simp [crashFs, opsN]
  | cons g fs ih =>
    intro f keep
    simp only [List.cons_append, crashFs, ih, List.drop_drop]
    simp [opsN]
theorem keptOps_snoc : ∀ (os : List (Nat × List UInt8)) (s : List UInt8) (o : Nat × List UInt8) (keep : List Bool), keptOps s (os ++ [o]) keep = if (keep.drop os.length).headD false then layL (keptOps s os keep) o.1 o.2 else keptOps s os keep := by
  intro os
  induction os with
  | nil => intro s o keep; simp [keptOps]
  | cons p os ih =>
    intro s o keep
    simp only [List.cons_append, keptOps, ih]
    cases keep <;> simp
theorem keptOps_len {B : Nat} : ∀ (os : List (Nat × List UInt8)) (s : List UInt8) (keep : List Bool), s.length ≤ B → (∀ o ∈ os, o.1 + o.2.length ≤ B) → (keptOps s os keep).length ≤ B := by
  intro os
  induction os with
  | nil => intro s keep h _; exact h
  | cons o os ih =>
    intro s keep h ho
    rw [keptOps]
    refine ih _ _ ?_ (fun x hx => ho x (List.mem_cons_of_mem _ hx))
    split
    · rw [layL_length]; have := ho o (by simp); omega
    · exact h
theorem headD_drop {l : List Bool} {k : Nat} : (l.drop k).headD false = (l[k]?).getD false := by
  rw [List.headD_eq_head?_getD, List.head?_drop]

/-- The k-th of a list of bools. -/
theorem bool_at {w : World} {S : Nat → Prop} {A : Option Addr} {n c k : Nat} {l : List Bool} (hf : Lst boolR w S (.slice A n c) l) (hS : ∀ k, S k → k < w.heap.size) (hk : k < l.length) :
    ∃ ad, A = some ad ∧ ∀ w', Below w.heap.size w w' → w'.cell? (ad.add k) = some (.bool l[k]) := by
  obtain ⟨ad, cs, rfl, hs, hrd, hc⟩ := hf.at_ (List.getElem?_eq_getElem hk)
  have hrd : cs = [.bool l[k]] := hrd
  subst hrd
  refine ⟨ad, rfl, fun w' hb => ?_⟩
  have h := hc 0 _ rfl
  rw [show k * boolR.sz + 0 = k from by show k * 1 + 0 = k; omega] at h
  exact (hb.cell (by rw [block_add]; exact hS _ hs)).trans h

set_option maxHeartbeats 4000000 in
theorem crash_any (S Sk : Nat → Prop) (fv kv : Value) (d : DiskM) (keep : List Bool) (w : World) (hf : Lst fileR w S fv d.files) (hS : ∀ k, S k → k < w.heap.size) (hk : Lst boolR w Sk kv keep) (hSk : ∀ k, Sk k → k < w.heap.size) (hlen : d.files.length ≤ 1000) (hfew : ∀ f ∈ d.files, FileFew f ∧ f.ops.length ≤ 1000) :
    Calls Try.prog 7 #[.agg #[fv, .bool d.off, .int .i64 d.fuse], kv] w fun e w' => ∃ v S', e = .returned v ∧ DiskV w' S' v (d.crash keep) ∧ (∀ k, S' k → k < w'.heap.size ∧ w.heap.size ≤ k) ∧ Below w.heap.size w w' := by
  obtain ⟨i0, hi0, hz0, hz1, hz2⟩ := info_parts info_files
  obtain ⟨A, n, c, rfl, hn, hnc, hcm⟩ := hf.form
  obtain ⟨Ak, nk, ck, rfl, hnk, hnck, hcmk⟩ := hk.form
  have HN := Lib.hid hn
  have HNK := Lib.hid hnk
  have HF := Lib.hid hf
  have HKP := Lib.hid hk
  have HFEW := Lib.hid hfew
  have hn3 : n ≤ 1000 := by omega
  unfold maxLen at hcmk
  obtain ⟨w2, hw2⟩ : ∃ w2, (w.alloc (.cells #[.slice A n c, .bool d.off, .int .i64 d.fuse] 28)).alloc (.cells #[.slice none 0 0, .bool false, .int .i64 0] 28) = w2 := ⟨_, rfl⟩
  have hb2 : Below w.heap.size w w2 := by rw [← hw2]; exact ((Below.refl _ w).alloc (Nat.le_refl _) _).alloc (by simp) _
  have hz2' : w2.heap.size = w.heap.size + 2 := by rw [← hw2]; simp
  have hd2 : w2.heap[w.heap.size]? = some (.cells #[.slice A n c, .bool d.off, .int .i64 d.fuse] 28 (0, 0)) := by rw [← hw2]; repeat (first | exact heap_new (by simp) _ | apply heap_old)
  have hr2 : w2.heap[w.heap.size + 1]? = some (.cells #[.slice none 0 0, .bool false, .int .i64 0] 28 (0, 0)) := by rw [← hw2]; repeat (first | exact heap_new (by simp) _ | apply heap_old)
  have HW2 := Lib.hid hw2
  clear hw2 hn hnk hf hk hfew
  go_enter Try.func7, Try.ntmps7
  go_wp2_with fail
  rw [HW2.out]
  go_loopw [5, 6, 7] (fun vo vq vi wr => ∃ i, vi = .int .i64 (i : Nat) ∧ i ≤ n ∧ vq = .int .i64 (opsN (d.files.take i) : Nat) ∧ opsN (d.files.take i) ≤ 1000 * i ∧ Own fileR wr (w.heap.size + 2) 46 (fun _ => False) vo (crashFs (d.files.take i) keep) ∧ (crashFs (d.files.take i) keep).length = i ∧ Below w2.heap.size w2 wr) (fun _ _ vi _ => n - (intOf vi).toNat)
  case atStart => exact ⟨0, rfl, Nat.zero_le _, rfl, Nat.zero_le _, Own.nil _ _ _ _ _, rfl, Below.refl _ _⟩
  case round =>
    obtain ⟨i, rfl, hi, rfl, hq, ho, hol, hb⟩ := hrel
    obtain ⟨wo, rfl⟩ : ∃ wo : World, wo = wr := ⟨_, rfl⟩
    obtain ⟨q, hqe⟩ : ∃ q, opsN (d.files.take i) = q := ⟨_, rfl⟩
    have hz := hb.size
    have hbw : Below w.heap.size w wo := hb2.trans (hb.mono (by omega))
    have hdr := (hb.block _ (by omega)).trans hd2
    have d0 : wo.cell? ⟨w.heap.size, 0, none⟩ = some (.slice A n c) := cell_of_row wo _ 0 _ _ _ hdr
    obtain ⟨A3, n3, c3, rfl, hn33, -⟩ := ho.read.form
    have HN33 := Lib.hid hn33
    have HO := Lib.hid ho
    have HOL := Lib.hid hol
    clear hn33 ho hol
    rw [hqe] at hq ⊢
    by_cases hlt : i < n
    · have hil : i < d.files.length := by have := HN.out; omega
      obtain ⟨ad, f, v, hA, hadlt, hx, hvo, hcells⟩ := file_at (k := i) HF.out hS hil
      have hdtake : d.files.take (i + 1) = d.files.take i ++ [f] := by
        rw [List.take_succ_eq_append_getElem hil]
        rw [List.getElem?_eq_getElem hil] at hx
        injection hx with hx
        rw [hx]
      have hfm : f ∈ d.files := List.mem_of_getElem? hx
      obtain ⟨⟨q1, q2, q3⟩, q4⟩ := HFEW.out f hfm
      subst hA
      obtain ⟨h0, h1, h2⟩ := hcells wo hbw
      obtain ⟨A', n', c', rfl, hn'⟩ := hvo.form
      have HN' := Lib.hid hn'.1
      have hn'1 : n' ≤ 1000 := by omega
      have HVO := Lib.hid hvo
      have HDT := Lib.hid hdtake
      have HQE := Lib.hid hqe
      have HQ3 := Lib.hid q3
      have hd : decide ((i : Int) < (n : Int)) = true := decide_eq_true (by omega)
      obtain ⟨wf, hwf⟩ : ∃ wf, wo.alloc (.cells #[strV f.name, strV f.data, .slice A' n' c'] 46) = wf := ⟨_, rfl⟩
      have hbf : Below wo.heap.size wo wf := by rw [← hwf]; exact (Below.refl _ wo).alloc (Nat.le_refl _) _
      have hzf : wf.heap.size = wo.heap.size + 1 := by rw [← hwf]; simp
      have hff : wf.heap[wo.heap.size]? = some (.cells #[strV f.name, strV f.data, .slice A' n' c'] 46 (0, 0)) := by rw [← hwf]; exact heap_new rfl _
      have HWF := Lib.hid hwf
      have HBF := Lib.hid (fun W (h : Below wf.heap.size wf W) => (show W.cell? ⟨wo.heap.size, 0, none⟩ = some (strV f.name) ∧ W.cell? ⟨wo.heap.size, 1, none⟩ = some (strV f.data) ∧ W.cell? ⟨wo.heap.size, 2, none⟩ = some (.slice A' n' c') from
        ⟨cell_of_row W _ 0 _ _ _ ((h.block _ (by omega)).trans hff), cell_of_row W _ 1 _ _ _ ((h.block _ (by omega)).trans hff), cell_of_row W _ 2 _ _ _ ((h.block _ (by omega)).trans hff)⟩))
      clear hx hcells hdtake hfm hn' hvo hqe q3 hwf hff
      go_wp2_with fail
      rw [HWF.out]
      go_loopw [6, 9, 10] (fun vq vs vk wr => ∃ k s, vk = .int .i64 (k : Nat) ∧ k ≤ n' ∧ vq = .int .i64 ((q + k : Nat) : Int) ∧ vs = .string (bt s) ∧ s = keptOps f.data (f.ops.take k) (keep.drop q) ∧ s.length ≤ 1099511627776 ∧ Below wf.heap.size wf wr) (fun _ _ vk _ => n' - (intOf vk).toNat)
      case atStart => exact ⟨0, f.data, rfl, Nat.zero_le _, rfl, rfl, rfl, q1, Below.refl _ _⟩
      case round =>
        obtain ⟨k, s, rfl, hk, rfl, rfl, hs, hsl, hbi⟩ := hrel
        have hzi := hbi.size
        have HS := Lib.hid hs
        clear hs d0 h0 h1 h2
        obtain ⟨f0, f1, f2⟩ := HBF.out wr hbi
        obtain ⟨qk, hqk⟩ : ∃ qk, qk = q + k := ⟨_, rfl⟩
        rw [← hqk]
        have hqk2 : qk ≤ 1000 * i + k := by omega
        have HQK := Lib.hid hqk
        clear hqk
        have hwq : IntKind.i64.wrap ((qk : Int) + 1) = (qk : Int) + 1 := IntWalk.i64_in _ (by omega)
        by_cases hkl : k < n'
        · have hd2 : decide ((k : Int) < (n' : Int)) = true := decide_eq_true (by omega)
          have hkl2 : k < f.ops.length := by have := HN'.out; omega
          obtain ⟨ad2, hA2, -, hcells2⟩ := op_at (k := k) HVO.out hS hkl2
          subst hA2
          have hbwi : Below w.heap.size w wr := (hbw.trans (hbf.mono (by omega))).trans (hbi.mono (by omega))
          obtain ⟨o0, o1⟩ := hcells2 wr hbwi
          have h3 := HQ3.out f.ops[k] (List.getElem_mem hkl2)
          have HTK := Lib.hid (List.take_succ_eq_append_getElem hkl2)
          have HKS := Lib.hid (keptOps_snoc (f.ops.take k) f.data f.ops[k] (keep.drop q))
          obtain ⟨o, ho⟩ : ∃ o, f.ops[k] = o := ⟨_, rfl⟩
          have HOO := Lib.hid ho
          rw [ho] at o0 o1 h3 HTK HKS
          clear ho hcells2
          have hHD : Hid ((((keep.drop q).drop (f.ops.take k).length).headD false) = (keep[qk]?).getD false) := by
            rw [List.length_take, Nat.min_eq_left (by omega), List.drop_drop, headD_drop, HQK.out]; exact rfl
          by_cases hin : qk < nk
          · have hd3 : decide ((qk : Int) < (nk : Int)) = true := decide_eq_true (by omega)
            have hql : qk < keep.length := by have := HNK.out; omega
            obtain ⟨ad3, hA3, hcells3⟩ := bool_at (k := qk) HKP.out hSk hql
            subst hA3
            have k0 := hcells3 wr hbwi
            have HG := Lib.hid (show (keep[qk]?).getD false = keep[qk] by rw [List.getElem?_eq_getElem hql]; rfl)
            clear hcells3
            generalize keep[qk] = b at *
            have e5 : (qk : Int) < (nk : Int) := by omega
            cases b with
            | true =>
              have HNX : Hid (keptOps f.data (f.ops.take (k + 1)) (keep.drop q) = layL s o.1 o.2) := by
                rw [HTK.out, HKS.out, if_pos (by rw [hHD.out, HG.out]), ← HS.out]; exact rfl
              have e6 : (k : Int) < (n' : Int) := by omega
              go_wp2_with fail
              go_region_held3 (fun W => W.cell? ⟨wo.heap.size, 2, none⟩ = some (.slice (some ad2) n' c') ∧ W.cell? (ad2.add (k * 2)) = some (.int .i64 o.1) ∧ W.cell? ⟨(ad2.add (k * 2)).block, (ad2.add (k * 2)).off + 1, none⟩ = some (strV o.2)) (first | go_keep | exact k1) ((go_at_call 15; refine (lay15_any s o.1 o.2 _ hsl (by omega) (by omega)).mono ?_; rintro e wA ⟨rfl, hbA⟩; have k1 : wA.cell? ⟨wo.heap.size, 2, none⟩ = some (.slice (some ad2) n' c') ∧ wA.cell? (ad2.add (k * 2)) = some (.int .i64 o.1) ∧ wA.cell? ⟨(ad2.add (k * 2)).block, (ad2.add (k * 2)).off + 1, none⟩ = some (strV o.2) := ⟨(hbA.cell (p := ⟨wo.heap.size, 2, none⟩) (by show wo.heap.size < wr.heap.size; omega)).trans f2, (hbA.cell (World.block_lt_of_cell? wr _ o0)).trans o0, (hbA.cell (World.block_lt_of_cell? wr _ o1)).trans o1⟩))
              have hzA := hbA.size
              have hlen2 : (layL s o.1 o.2).length ≤ 1099511627776 := by rw [layL_length]; omega
              clear k1
              go_wp2_with fail
              go_roundw
              case rel => exact ⟨k + 1, layL s o.1 o.2, by go_num, by omega, by rw [HQK.out]; go_num, rfl, HNX.out.symm, hlen2, hbi.trans ((show Below wr.heap.size wr wA from (Below.drew (Below.refl _ wr)).trans hbA).mono (by omega))⟩
              case measure => simp [intOf]; omega
            | false =>
              have HNX : Hid (keptOps f.data (f.ops.take (k + 1)) (keep.drop q) = s) := by
                rw [HTK.out, HKS.out, if_neg (by rw [hHD.out, HG.out]; simp), ← HS.out]; exact rfl
              go_wp2_with fail
              go_roundw
              case rel => exact ⟨k + 1, s, by go_num, by omega, by rw [HQK.out]; go_num, rfl, HNX.out.symm, hsl, hbi⟩
              case measure => simp [intOf]; omega
          · have hd3 : decide ((qk : Int) < (nk : Int)) = false := decide_eq_false (by omega)
            have HG := Lib.hid (show (keep[qk]?).getD false = false by rw [List.getElem?_eq_none (by have := HNK.out; omega)]; rfl)
            have HNX : Hid (keptOps f.data (f.ops.take (k + 1)) (keep.drop q) = s) := by
              rw [HTK.out, HKS.out, if_neg (by rw [hHD.out, HG.out]; simp), ← HS.out]; exact rfl
            go_wp2_with fail
            go_roundw
            case rel => exact ⟨k + 1, s, by go_num, by omega, by rw [HQK.out]; go_num, rfl, HNX.out.symm, hsl, hbi⟩
            case measure => simp [intOf]; omega
        · have hd2 : decide ((k : Int) < (n' : Int)) = false := decide_eq_false (by omega)
          simp only [strV] at f0
          have hkn : Hid (crashFs (d.files.take (i + 1)) keep = crashFs (d.files.take i) keep ++ [⟨f.name, s, []⟩]) := by
            rw [HDT.out, crashFs_snoc, HQE.out, HS.out, List.take_of_length_le (l := f.ops) (i := k) (by have := HN'.out; omega)]; exact rfl
          have hq3 : Hid (opsN (d.files.take (i + 1)) = qk) := by
            rw [HDT.out, opsN_snoc, HQE.out, HQK.out]; have := HN'.out; have : k = f.ops.length := by omega
            rw [this]; exact rfl
          have hlt3 := HO.out.lt
          have how : Own fileR wr (w.heap.size + 2) 46 (fun _ => False) (.slice A3 n3 c3) (crashFs (d.files.take i) keep) := HO.out.same (fun j hj => (hbi.block j (by have := (hlt3 j (by simpa using hj)).2; omega)).trans (hbf.block j (hlt3 j (by simpa using hj)).2))
          have HOW := Lib.hid (how.same (W' := wr.alloc (.cells #[.string (bt f.name), .string (bt s), .slice none 0 0] 46)) (fun j hj => Below.heap_alloc _ _ _ (how.lt j (by simpa using hj)).2))
          have HSRC := Lib.hid (Src.one_new (r := fileR) (w := wr) (S := fun _ => False) (x := ⟨f.name, s, []⟩) 46 (cs := #[.string (bt f.name), .string (bt s), .slice none 0 0]) (fileR_rd.2 ⟨_, rfl, Lst.nil _ _ _⟩) (fun k hk => hk.elim))
          have HBB := Lib.hid (fun W (h : (wr.alloc (.cells #[.string (bt f.name), .string (bt s), .slice none 0 0] 46)).grownBy W (Value.slice A3 n3 c3).ownBlock) => (show Below w2.heap.size w2 W from (((hb.trans (hbf.mono (by omega))).trans (hbi.mono (by omega))).alloc (by omega) _).grown h (by simp; omega) (fun k hk => by have := (hlt3 k hk).1; omega)))
          have hl1 : (crashFs (d.files.take i) keep).length ≤ 1000 := by have := HOL.out; omega
          have B1 := Lib.hid (show (crashFs (d.files.take i) keep).length + 1 ≤ maxLen by unfold maxLen; omega)
          have B2 := Lib.hid (show ((crashFs (d.files.take i) keep).length + 1) * 56 ≤ 140737488355328 by omega)
          have hL1 : Hid ((crashFs (d.files.take (i + 1)) keep).length = i + 1) := by rw [hkn.out, List.length_append, HOL.out]; exact rfl
          clear how hlt3 f1
          go_wp2_with (at_builtin; refine wpList_append (r := fileR) rfl (.tmp 58) (.tmp 63) _ rfl (w.heap.size + 2) 46 i0 _ 56 Try.underlying26 hi0 hz0 hz1 hz2 rfl (by decide) (S := fun _ => False) (fun k hk => hk.elim) (.slice A3 n3 c3) (crashFs (d.files.take i) keep) [⟨f.name, s, []⟩] rfl HOW.out (some ⟨wr.heap.size, 0, none⟩) 1 1 rfl rfl HSRC.out B1.out B2.out (by simp; omega) ?_)
          intro v4 w4 ho4 hg4 hat4
          have HO4 := Lib.hid ho4
          have HB4 := Lib.hid (HBB.out w4 hg4)
          clear ho4 hg4 hat4
          go_wp2_with fail
          go_roundw
          case rel => exact ⟨i + 1, by go_num, by omega, by rw [hq3.out], by rw [hq3.out]; omega, by rw [hkn.out]; exact HO4.out, hL1.out, HB4.out⟩
          case measure => simp [intOf]; omega
    · have hd : decide ((i : Int) < (n : Int)) = false := decide_eq_false (by omega)
      have hin : i = n := by omega
      have HT : Hid (crashFs (d.files.take i) keep = (d.crash keep).files) := by rw [List.take_of_length_le (by have := HN.out; omega)]; exact rfl
      have hrr := (hb.block (w.heap.size + 1) (by omega)).trans hr2
      have r0 : wo.cell? ⟨w.heap.size + 1, 0, none⟩ = some (.slice none 0 0) := cell_of_row wo _ 0 _ _ _ hrr
      have r1 : wo.cell? ⟨w.heap.size + 1, 1, none⟩ = some (.bool false) := cell_of_row wo _ 1 _ _ _ hrr
      have r2 : wo.cell? ⟨w.heap.size + 1, 2, none⟩ = some (.int .i64 0) := cell_of_row wo _ 2 _ _ _ hrr
      have r3 : wo.frozen? ⟨w.heap.size + 1, 0, none⟩ = false := frozen_of_row wo _ 0 _ _ hrr
      have r4 : wo.frozen? ⟨w.heap.size + 1, 1, none⟩ = false := frozen_of_row wo _ 1 _ _ hrr
      have r5 : wo.frozen? ⟨w.heap.size + 1, 2, none⟩ = false := frozen_of_row wo _ 2 _ _ hrr
      have hor := HO.out.read
      rw [HT.out] at hor
      have hlt3 := HO.out.lt
      have HFIN := Lib.hid (disk_store (S := fun _ => False) (d1 := d.crash keep) hrr hor (fun k hk => by
        rcases hk with h | h
        · exact h.elim
        · exact ⟨(hlt3 k h).2, .inr (hlt3 k h).1⟩) (fun k h => h.elim) (.inr rfl) hbw rfl)
      clear hor hlt3 hrr hin
      go_wp2_with fail
      obtain ⟨f1, f2, f3, f4, f5, f6⟩ := HFIN.out
      refine bodyPost_ret (v := .agg #[.slice A3 n3 c3, .bool false, .int .i64 (-1)]) ?_ rfl ?_
      · simp [results, Try.results7, go_sem, r0, r1, r2]
      · exact ⟨_, _, rfl, ⟨_, rfl, f3⟩, fun k hk => ⟨(f4 k hk).1, by rcases (f4 k hk).2 with h | h; exact h.elim; omega⟩, f5⟩

end Go.Proofs.Ytaalhhgjliofaaa
