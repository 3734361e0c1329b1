/- The contract of the program's Append (silo/wal). -/
import Derived.Test.YtaalhhgjliofaaaChain
import Derived.Test.YtaalhhgjliofaaaFrm
import Derived.Deep.RegionHeld3
set_option linter.unusedVariables false
set_option linter.unusedSimpArgs false
set_option maxRecDepth 100000
namespace Go.Proofs.Ytaalhhgjliofaaa
open Go.RowKit Go.Shelf

theorem walWrite_any (t s : List UInt8) (k : Nat) (w : World) :
    Calls Try.prog 13 #[strV t, .int .i64 k, strV s] w fun e w' => e = .returned (.func (.func 22) #[] #[.pointer (some ⟨w.heap.size, 0, none⟩), .pointer (some ⟨w.heap.size + 1, 0, none⟩), .pointer (some ⟨w.heap.size + 1 + 1, 0, none⟩)]) ∧
      Boxed w' w.heap.size 9 (strV t) ∧ Boxed w' (w.heap.size + 1) 3 (.int .i64 k) ∧ Boxed w' (w.heap.size + 1 + 1) 9 (strV s) ∧ Below w.heap.size w w' := by
  go_enter Try.func13, Try.ntmps13
  simp only [strV]
  go_wp2_with fail
  go_ret
  refine ⟨rfl, ?_, ?_, ?_, (((Below.refl _ w).alloc (Nat.le_refl _) _).alloc (by simp) _).alloc (by simp; omega) _⟩
  all_goals (unfold Boxed; repeat (first | exact heap_new (by simp) _ | apply heap_old))
theorem walSync_any (t : List UInt8) (w : World) :
    Calls Try.prog 14 #[strV t] w fun e w' => e = .returned (.func (.func 24) #[] #[.pointer (some ⟨w.heap.size, 0, none⟩)]) ∧ Boxed w' w.heap.size 9 (strV t) ∧ Below w.heap.size w w' := by
  go_enter Try.func14, Try.ntmps14
  simp only [strV]
  go_wp2_with fail
  go_ret
  exact ⟨rfl, boxed_new rfl _ _, (Below.refl _ w).alloc (Nat.le_refl _) _⟩

def actW (t s : List UInt8) (k bn ba bs : Nat) : ActT := ⟨22, [.pointer (some ⟨bn, 0, none⟩), .pointer (some ⟨ba, 0, none⟩), .pointer (some ⟨bs, 0, none⟩)], fun d => d.write t k s, fun d => LogOk d t⟩
def actS (t : List UInt8) (bn : Nat) : ActT := ⟨24, [.pointer (some ⟨bn, 0, none⟩)], fun d => d.sync t, fun d => LogOk d t⟩
theorem actW_ok {t s : List UInt8} {k bn ba bs : Nat} {W0 : World} (hn : Boxed W0 bn 9 (strV t)) (ha : Boxed W0 ba 3 (.int .i64 k)) (hs : Boxed W0 bs 9 (strV s)) (ht : nameB t = true) (hta : ∀ b ∈ t, b.toNat < 128) (hks : k + s.length ≤ 262144) : (actW t s k bn ba bs).Ok W0 := {
  enter := enters_of Try.func22 (by kernel_rfl) rfl
  call := fun S fv d W hm hl hS hok => wwrite1_any S fv d t s k bn ba bs W ((hm.block _ (by have := hn.lt; omega) hn.lt).trans hn) ((hm.block _ (by have := ha.lt; omega) ha.lt).trans ha) ((hm.block _ (by have := hs.lt; omega) hs.lt).trans hs) hl hS hok ht hta hks }
theorem actS_ok {t : List UInt8} {bn : Nat} {W0 : World} (hn : Boxed W0 bn 9 (strV t)) : (actS t bn).Ok W0 := {
  enter := enters_of Try.func24 (by kernel_rfl) rfl
  call := fun S fv d W hm hl hS hok => wsync1_any S fv d t bn W ((hm.block _ (by have := hn.lt; omega) hn.lt).trans hn) hl hS hok }
theorem chain_ws (d : DiskM) (t s : List UInt8) (k a b c e : Nat) : chainM [actW t s k a b c, actS t e] d = if (d.write t k s).2 ≠ 0 then d.write t k s else (d.write t k s).1.sync t := by
  show (if (d.write t k s).2 ≠ 0 then d.write t k s else if ((d.write t k s).1.sync t).2 ≠ 0 then (d.write t k s).1.sync t else (((d.write t k s).1.sync t).1, 0)) = _
  by_cases h1 : (d.write t k s).2 ≠ 0
  · rw [if_pos h1, if_pos h1]
  · rw [if_neg h1, if_neg h1]
    by_cases h2 : ((d.write t k s).1.sync t).2 ≠ 0
    · rw [if_pos h2]
    · rw [if_neg h2]
      have h : ((d.write t k s).1.sync t).2 = 0 := by simpa using h2
      rw [← h]
theorem gather_len : ∀ (l : List (List UInt8)) (acc w : List UInt8), acc.length ≤ 65536 → gather acc l = some w → w.length ≤ 65536 := by
  intro l
  induction l with
  | nil => intro acc w h hg; rw [gather] at hg; injection hg with hg; subst hg; exact h
  | cons t l ih =>
    intro acc w h hg
    rw [gather] at hg
    split at hg
    · cases hg
    · next hn => exact ih _ _ (by simp only [not_or, Nat.not_lt] at hn; exact hn.2) hg
theorem gather_cons (acc t : List UInt8) (l : List (List UInt8)) : gather acc (t :: l) = if wrapL t = [] ∨ 65536 < (acc ++ wrapL t).length then none else gather (acc ++ wrapL t) l := rfl

/-- The call of chain in Append. -/
theorem append_chain {S : Nat → Prop} {fv : Value} {d : DiskM} {k g bn ba bs bt2 : Nat} {s : List UInt8} {W : World} (hl : Lst fileR W S fv d.files) (hS : ∀ k, S k → k < W.heap.size) (hok : LogOk d logN) (hok2 : (d.write logN k s).2 = 0 → LogOk (d.write logN k s).1 logN) (hks : k + s.length ≤ 262144)
    (hn : Boxed W bn 9 (strV logN)) (ha : Boxed W ba 3 (.int .i64 k)) (hs : Boxed W bs 9 (strV s)) (hn2 : Boxed W bt2 9 (strV logN))
    (hrow : W.heap[g]? = some (.cells #[(actW logN s k bn ba bs).val, (actS logN bt2).val] 41 (0, 0))) :
    Calls Try.prog 12 #[.agg #[fv, .bool d.off, .int .i64 d.fuse], .slice (some ⟨g, 0, none⟩) 2 2] W (DPost W S (if (d.write logN k s).2 ≠ 0 then d.write logN k s else (d.write logN k s).1.sync logN)) := by
  rw [← chain_ws d logN s k bn ba bs bt2]
  refine chain_any S fv d [actW logN s k bn ba bs, actS logN bt2] _ 2 2 (fun j => j = g) W W (Same.refl _ _) hl hS ?_ (fun j hj => by rw [hj]; exact (Array.getElem?_eq_some_iff.1 hrow).1) (by simp) ?_ ⟨hok, fun h => ⟨hok2 h, fun _ => trivial⟩⟩
  · refine ⟨some ⟨g, 0, none⟩, 2, [(actW logN s k bn ba bs).val, (actS logN bt2).val], rfl, Nat.le_refl _, by decide, ⟨[_], [_], rfl, rfl, [_], [], rfl, rfl, rfl⟩, fun _ => ⟨_, rfl, rfl, fun j u hu => ?_⟩⟩
    have hadd : (⟨g, 0, none⟩ : Addr).add j = ⟨g, j, none⟩ := by unfold Addr.add; split <;> simp_all
    rw [hadd, cell_of_row W _ j _ _ _ hrow]
    simpa using hu
  · intro a ha'
    simp only [List.mem_cons, List.not_mem_nil, or_false] at ha'
    rcases ha' with rfl | rfl
    · exact actW_ok hn ha hs (by decide) (by decide) hks
    · exact actS_ok hn2

set_option maxHeartbeats 4000000 in
theorem append_any (S Sl : Nat → Prop) (fv lv : Value) (d : DiskM) (l : List (List UInt8)) (w : World) (hf : Lst fileR w S fv d.files) (hS : ∀ k, S k → k < w.heap.size) (hl : Lst strR w Sl lv l) (hSl : ∀ k, Sl k → k < w.heap.size) (hll : l.length ≤ 1000000) (hx : ∀ x ∈ l, x.length ≤ 1000000)
    (hok : LogOk d logN) (hok2 : ∀ t, gather [] l = some t → (d.write logN (scanN d.log) t).2 = 0 → LogOk (d.write logN (scanN d.log) t).1 logN) :
    Calls Try.prog 6 #[.agg #[fv, .bool d.off, .int .i64 d.fuse], lv] w (DPost w S (d.append l)) := by
  obtain ⟨A, n, c, rfl, hn, hnc, hcm⟩ := hf.form
  obtain ⟨A2, m, c2, rfl, hm, hmc, hmm⟩ := hl.form
  have HM := Lib.hid hm
  have HL := Lib.hid hl
  have HX := Lib.hid hx
  have hm3 : m ≤ 1000000 := by omega
  obtain ⟨w2, hw2⟩ : ∃ w2, (w.alloc (.cells #[.slice A n c, .bool d.off, .int .i64 d.fuse] 28)).alloc (.cells #[.slice none 0 0, .bool false, .int .i64 0] 28) = w2 := ⟨_, rfl⟩
  have hb2 : Below w.heap.size w w2 := by rw [← hw2]; exact ((Below.refl _ w).alloc (Nat.le_refl _) _).alloc (by simp) _
  have hz2 : w2.heap.size = w.heap.size + 2 := by rw [← hw2]; simp
  have hd2 : w2.heap[w.heap.size]? = some (.cells #[.slice A n c, .bool d.off, .int .i64 d.fuse] 28 (0, 0)) := by rw [← hw2]; repeat (first | exact heap_new (by simp) _ | apply heap_old)
  have hr2 : w2.heap[w.heap.size + 1]? = some (.cells #[.slice none 0 0, .bool false, .int .i64 0] 28 (0, 0)) := by rw [← hw2]; repeat (first | exact heap_new (by simp) _ | apply heap_old)
  have HLG := Lib.hid (log_any S (.slice A n c) d w2 (hf.keep (fun k hk => hb2.block k (hS k hk))) (fun k hk => by have := hS k hk; omega) hok)
  have HW2 := Lib.hid hw2
  have hsf := (scan_form d.log).2.2.2
  have htx : d.log.length ≤ 196608 := hok.txt
  clear hw2 hn hm hl hx
  go_enter Try.func6, Try.ntmps6
  go_wp2_with fail
  rw [HW2.out]
  refine HLG.out.mono ?_
  rintro e w3 ⟨v, rfl, hlv, hlt, hb3⟩
  obtain ⟨A3, n3, c3, rfl, -⟩ := hlv.form
  have hz3 := hb3.size
  have hd3 := (hb3.block _ (by omega)).trans hd2
  have hr3 := (hb3.block _ (by omega)).trans hr2
  have hb03 : Below w.heap.size w w3 := hb2.trans (hb3.mono (by omega))
  have hl3 : Lst fileR w3 S (.slice A n c) d.files := hf.keep (fun k hk => hb03.block k (hS k hk))
  clear hlv hlt hd2 hr2 HLG HW2
  have d0 : w3.cell? ⟨w.heap.size, 0, none⟩ = some (.slice A n c) := cell_of_row w3 _ 0 _ _ _ hd3
  have d1 : w3.cell? ⟨w.heap.size, 1, none⟩ = some (.bool d.off) := cell_of_row w3 _ 1 _ _ _ hd3
  have d2 : w3.cell? ⟨w.heap.size, 2, none⟩ = some (.int .i64 d.fuse) := cell_of_row w3 _ 2 _ _ _ hd3
  have HRES := Lib.hid (fun W (hb : Below w3.heap.size w3 W) => (show W.heap[w.heap.size + 1]? = some (.cells #[.slice none 0 0, .bool false, .int .i64 0] 28 (0, 0)) from (hb.block _ (by omega)).trans hr3))
  have HDD := Lib.hid (fun W (hb : Below w3.heap.size w3 W) => (show W.heap[w.heap.size]? = some (.cells #[.slice A n c, .bool d.off, .int .i64 d.fuse] 28 (0, 0)) from (hb.block _ (by omega)).trans hd3))
  have HBL := Lib.hid (fun W (hb : Below w3.heap.size w3 W) => (show Lst fileR W S (.slice A n c) d.files ∧ Below w.heap.size w W from ⟨hl3.keep (fun k hk => hb.block k (by have := hS k hk; omega)), hb03.trans (hb.mono (by omega))⟩))
  have es := bt_size d.log
  by_cases hcut : scanN d.log < d.log.length
  · have hdc : decide ((scanN d.log : Int) < (d.log.length : Int)) = true := decide_eq_true (by omega)
    have HE : Hid (d.append l = (d, 2)) := by unfold DiskM.append; rw [if_pos hcut]; exact rfl
    have r0 : w3.cell? ⟨w.heap.size + 1, 0, none⟩ = some (.slice none 0 0) := cell_of_row w3 _ 0 _ _ _ hr3
    have r1 : w3.cell? ⟨w.heap.size + 1, 1, none⟩ = some (.bool false) := cell_of_row w3 _ 1 _ _ _ hr3
    have r2 : w3.cell? ⟨w.heap.size + 1, 2, none⟩ = some (.int .i64 0) := cell_of_row w3 _ 2 _ _ _ hr3
    have r3 : w3.frozen? ⟨w.heap.size + 1, 0, none⟩ = false := frozen_of_row w3 _ 0 _ _ hr3
    have r4 : w3.frozen? ⟨w.heap.size + 1, 1, none⟩ = false := frozen_of_row w3 _ 1 _ _ hr3
    have r5 : w3.frozen? ⟨w.heap.size + 1, 2, none⟩ = false := frozen_of_row w3 _ 2 _ _ hr3
    have HFIN := Lib.hid (disk_store (S := S) hr3 hl3 (fun k hk => ⟨by have := hS k hk; omega, .inl hk⟩) hS (.inr rfl) hb03 rfl)
    simp only [strV]
    go_wp2_with fail
    obtain ⟨f1, f2, f3, f4, f5, f6⟩ := HFIN.out
    refine bodyPost_ret (v := .tuple #[.agg #[.slice A n c, .bool d.off, .int .i64 d.fuse], .int .i64 2]) ?_ rfl ?_
    · simp [results, Try.results6, go_sem, r0, r1, r2]
    · rw [HE.out]
      exact ⟨_, S, rfl, ⟨_, rfl, f3⟩, fun k hk => ⟨(f4 k hk).1, by rcases (f4 k hk).2 with h | h; exact .inl h; exact .inr (by omega)⟩, f5⟩
  · have hdc : decide ((scanN d.log : Int) < (d.log.length : Int)) = false := decide_eq_false (by omega)
    have HE : Hid (d.append l = match gather [] l with | none => (d, 4) | some w => if w = [] then (d, 0) else if (d.write logN (scanN d.log) w).2 ≠ 0 then d.write logN (scanN d.log) w else (d.write logN (scanN d.log) w).1.sync logN) := by unfold DiskM.append; rw [if_neg hcut]; exact rfl
    simp only [strV]
    go_wp2_with fail
    go_loopw [9, 26] (fun va vi wr => ∃ i acc, va = .string (bt acc) ∧ vi = .int .i64 (i : Nat) ∧ i ≤ m ∧ acc.length ≤ 65536 ∧ gather acc (l.drop i) = gather [] l ∧ Below w3.heap.size w3 wr) (fun _ vi _ => m - (intOf vi).toNat)
    case atStart => exact ⟨0, [], rfl, rfl, Nat.zero_le _, by simp, rfl, Below.refl _ _⟩
    case round =>
      obtain ⟨i, acc, rfl, rfl, hi, hac, hg, hb⟩ := hrel
      have hz := hb.size
      have HG := Lib.hid hg
      have ea := bt_size acc
      clear hg
      by_cases hlt : i < m
      · have hil : i < l.length := by have := HM.out; omega
        obtain ⟨ad, cs, hA, hsa, hrd, hcl⟩ := HL.out.at_ (List.getElem?_eq_getElem hil)
        have hrd : cs = [strV l[i]] := hrd
        have hxl := HX.out l[i] (List.getElem_mem hil)
        have hdr : l.drop i = l[i] :: l.drop (i + 1) := List.drop_eq_getElem_cons hil
        have HG2 : Hid (gather acc (l[i] :: l.drop (i + 1)) = gather [] l) := by rw [← hdr]; exact HG.out
        generalize l[i] = x at *
        subst hrd hA
        have c0 : wr.cell? (ad.add i) = some (.string (bt x)) := by
          have h := hcl 0 _ rfl
          rw [show i * strR.sz + 0 = i from by show i * 1 + 0 = i; omega] at h
          exact (hb.cell (by rw [block_add]; have := hSl _ hsa; omega)).trans ((hb03.cell (by rw [block_add]; exact hSl _ hsa)).trans h)
        have hd : decide ((i : Int) < (m : Int)) = true := decide_eq_true (by omega)
        have ex := bt_size x
        have HWR := Lib.hid (wrap_any (bt x) wr (by omega))
        rw [bt_list] at HWR
        have hwl := wrapL_len x
        clear hcl hdr
        go_wp2_with fail
        refine HWR.out.mono ?_
        rintro e w4 ⟨rfl, hb4⟩
        rw [bt_def]
        have HGC := Lib.hid (gather_cons acc x (l.drop (i + 1)))
        obtain ⟨W, hW⟩ : ∃ W, wrapL x = W := ⟨_, rfl⟩
        rw [hW] at HGC hwl ⊢
        obtain ⟨u, hu⟩ : ∃ u, acc ++ W = u := ⟨_, rfl⟩
        have eWl : (bt W).toList = W := bt_toList _
        have eW := bt_size W
        have happ : bt acc ++ bt W = bt u := by rw [← hu]; apply ByteArray.ext; simp [bt]
        have hul : u.length = acc.length + W.length := by rw [← hu]; simp
        have HUL := Lib.hid hul
        have HHU := Lib.hid hu
        have hu2 : u.length ≤ acc.length + W.length := by omega
        have hz4 := hb4.size
        have hb34 : Below w3.heap.size w3 w4 := hb.trans (hb4.mono hz)
        have eS := bt_size u
        clear c0 d0 d1 d2 hul hu hW
        by_cases hW0 : W = []
        · have hWe : W.isEmpty = true := by simp [hW0]
          have HW0 := Lib.hid hW0
          clear hW0
          have HN : Hid (d.append l = (d, 4)) := by
            rw [HE.out, ← HG2.out, HGC.out, if_pos (.inl HW0.out)]; exact rfl
          have hr4 := HRES.out w4 hb34
          have hd4 := HDD.out w4 hb34
          have hbl4 := HBL.out w4 hb34
          have r0 : w4.cell? ⟨w.heap.size + 1, 0, none⟩ = some (.slice none 0 0) := cell_of_row w4 _ 0 _ _ _ hr4
          have r1 : w4.cell? ⟨w.heap.size + 1, 1, none⟩ = some (.bool false) := cell_of_row w4 _ 1 _ _ _ hr4
          have r2 : w4.cell? ⟨w.heap.size + 1, 2, none⟩ = some (.int .i64 0) := cell_of_row w4 _ 2 _ _ _ hr4
          have r3 : w4.frozen? ⟨w.heap.size + 1, 0, none⟩ = false := frozen_of_row w4 _ 0 _ _ hr4
          have r4 : w4.frozen? ⟨w.heap.size + 1, 1, none⟩ = false := frozen_of_row w4 _ 1 _ _ hr4
          have r5 : w4.frozen? ⟨w.heap.size + 1, 2, none⟩ = false := frozen_of_row w4 _ 2 _ _ hr4
          have q0 : w4.cell? ⟨w.heap.size, 0, none⟩ = some (.slice A n c) := cell_of_row w4 _ 0 _ _ _ hd4
          have q1 : w4.cell? ⟨w.heap.size, 1, none⟩ = some (.bool d.off) := cell_of_row w4 _ 1 _ _ _ hd4
          have q2 : w4.cell? ⟨w.heap.size, 2, none⟩ = some (.int .i64 d.fuse) := cell_of_row w4 _ 2 _ _ _ hd4
          have HFIN := Lib.hid (disk_store (S := S) hr4 hbl4.1 (fun k hk => ⟨by have := hS k hk; omega, .inl hk⟩) hS (.inr rfl) hbl4.2 rfl)
          clear hr4 hd4 hbl4
          go_wp2_with fail
          obtain ⟨f1, f2, f3, f4, f5, f6⟩ := HFIN.out
          refine bodyPost_ret (v := .tuple #[.agg #[.slice A n c, .bool d.off, .int .i64 d.fuse], .int .i64 4]) ?_ rfl ?_
          · simp [results, Try.results6, go_sem, r0, r1, r2]
          · rw [HN.out]
            exact ⟨_, S, rfl, ⟨_, rfl, f3⟩, fun k hk => ⟨(f4 k hk).1, by rcases (f4 k hk).2 with h | h; exact .inl h; exact .inr (by omega)⟩, f5⟩
        · have hWe : W.isEmpty = false := by simpa using hW0
          by_cases hbig : 65536 < u.length
          · have hdb : decide (65536 < (u.length : Int)) = true := decide_eq_true (by omega)
            have HN : Hid (d.append l = (d, 4)) := by
              rw [HE.out, ← HG2.out, HGC.out, HHU.out, if_pos (.inr hbig)]; exact rfl
            have hr4 := HRES.out w4 hb34
            have hd4 := HDD.out w4 hb34
            have hbl4 := HBL.out w4 hb34
            have r0 : w4.cell? ⟨w.heap.size + 1, 0, none⟩ = some (.slice none 0 0) := cell_of_row w4 _ 0 _ _ _ hr4
            have r1 : w4.cell? ⟨w.heap.size + 1, 1, none⟩ = some (.bool false) := cell_of_row w4 _ 1 _ _ _ hr4
            have r2 : w4.cell? ⟨w.heap.size + 1, 2, none⟩ = some (.int .i64 0) := cell_of_row w4 _ 2 _ _ _ hr4
            have r3 : w4.frozen? ⟨w.heap.size + 1, 0, none⟩ = false := frozen_of_row w4 _ 0 _ _ hr4
            have r4 : w4.frozen? ⟨w.heap.size + 1, 1, none⟩ = false := frozen_of_row w4 _ 1 _ _ hr4
            have r5 : w4.frozen? ⟨w.heap.size + 1, 2, none⟩ = false := frozen_of_row w4 _ 2 _ _ hr4
            have q0 : w4.cell? ⟨w.heap.size, 0, none⟩ = some (.slice A n c) := cell_of_row w4 _ 0 _ _ _ hd4
            have q1 : w4.cell? ⟨w.heap.size, 1, none⟩ = some (.bool d.off) := cell_of_row w4 _ 1 _ _ _ hd4
            have q2 : w4.cell? ⟨w.heap.size, 2, none⟩ = some (.int .i64 d.fuse) := cell_of_row w4 _ 2 _ _ _ hd4
            have HFIN := Lib.hid (disk_store (S := S) hr4 hbl4.1 (fun k hk => ⟨by have := hS k hk; omega, .inl hk⟩) hS (.inr rfl) hbl4.2 rfl)
            clear hr4 hd4 hbl4
            go_wp2_with fail
            obtain ⟨f1, f2, f3, f4, f5, f6⟩ := HFIN.out
            refine bodyPost_ret (v := .tuple #[.agg #[.slice A n c, .bool d.off, .int .i64 d.fuse], .int .i64 4]) ?_ rfl ?_
            · simp [results, Try.results6, go_sem, r0, r1, r2]
            · rw [HN.out]
              exact ⟨_, S, rfl, ⟨_, rfl, f3⟩, fun k hk => ⟨(f4 k hk).1, by rcases (f4 k hk).2 with h | h; exact .inl h; exact .inr (by omega)⟩, f5⟩
          · have hdb : decide (65536 < (u.length : Int)) = false := decide_eq_false (by omega)
            have HG3 : Hid (gather u (l.drop (i + 1)) = gather [] l) := by
              have := HG2.out
              rw [HGC.out, HHU.out, if_neg (by rintro (h | h); exact hW0 h; exact hbig h)] at this
              exact this
            go_wp2_with fail
            go_roundw
            case rel => exact ⟨i + 1, u, rfl, by go_num, by omega, by omega, HG3.out, hb34⟩
            case measure => simp [intOf]; omega
      · have hd : decide ((i : Int) < (m : Int)) = false := decide_eq_false (by omega)
        have HGA : Hid (gather [] l = some acc) := by
          have := HG.out
          rw [List.drop_eq_nil_of_le (by have := HM.out; omega)] at this
          exact this.symm
        have eal : (bt acc).toList = acc := bt_toList _
        clear d0 d1 d2
        by_cases ha0 : acc = []
        · have hae : acc.isEmpty = true := by simp [ha0]
          have HA0 := Lib.hid ha0
          have hb34 := hb
          clear ha0
          have HN : Hid (d.append l = (d, 0)) := by
            rw [HE.out, HGA.out]; exact if_pos HA0.out
          have hr4 := HRES.out wr hb34
          have hd4 := HDD.out wr hb34
          have hbl4 := HBL.out wr hb34
          have r0 : wr.cell? ⟨w.heap.size + 1, 0, none⟩ = some (.slice none 0 0) := cell_of_row wr _ 0 _ _ _ hr4
          have r1 : wr.cell? ⟨w.heap.size + 1, 1, none⟩ = some (.bool false) := cell_of_row wr _ 1 _ _ _ hr4
          have r2 : wr.cell? ⟨w.heap.size + 1, 2, none⟩ = some (.int .i64 0) := cell_of_row wr _ 2 _ _ _ hr4
          have r3 : wr.frozen? ⟨w.heap.size + 1, 0, none⟩ = false := frozen_of_row wr _ 0 _ _ hr4
          have r4 : wr.frozen? ⟨w.heap.size + 1, 1, none⟩ = false := frozen_of_row wr _ 1 _ _ hr4
          have r5 : wr.frozen? ⟨w.heap.size + 1, 2, none⟩ = false := frozen_of_row wr _ 2 _ _ hr4
          have q0 : wr.cell? ⟨w.heap.size, 0, none⟩ = some (.slice A n c) := cell_of_row wr _ 0 _ _ _ hd4
          have q1 : wr.cell? ⟨w.heap.size, 1, none⟩ = some (.bool d.off) := cell_of_row wr _ 1 _ _ _ hd4
          have q2 : wr.cell? ⟨w.heap.size, 2, none⟩ = some (.int .i64 d.fuse) := cell_of_row wr _ 2 _ _ _ hd4
          have HFIN := Lib.hid (disk_store (S := S) hr4 hbl4.1 (fun k hk => ⟨by have := hS k hk; omega, .inl hk⟩) hS (.inr rfl) hbl4.2 rfl)
          clear hr4 hd4 hbl4
          go_wp2_with fail
          obtain ⟨f1, f2, f3, f4, f5, f6⟩ := HFIN.out
          refine bodyPost_ret (v := .tuple #[.agg #[.slice A n c, .bool d.off, .int .i64 d.fuse], .int .i64 0]) ?_ rfl ?_
          · simp [results, Try.results6, go_sem, r0, r1, r2]
          · rw [HN.out]
            exact ⟨_, S, rfl, ⟨_, rfl, f3⟩, fun k hk => ⟨(f4 k hk).1, by rcases (f4 k hk).2 with h | h; exact .inl h; exact .inr (by omega)⟩, f5⟩
        · have hae : acc.isEmpty = false := by simpa using ha0
          have HA0 := Lib.hid ha0
          clear ha0
          go_wp2_with fail
          obtain ⟨r, hr⟩ : ∃ r, r = (if (d.write logN (scanN d.log) acc).2 ≠ 0 then d.write logN (scanN d.log) acc else (d.write logN (scanN d.log) acc).1.sync logN) := ⟨_, rfl⟩
          have HN : Hid (d.append l = r) := by rw [HE.out, HGA.out, hr]; exact if_neg HA0.out
          have HOK2 := hok2 acc HGA.out
          have hks : scanN d.log + acc.length ≤ 262144 := by omega
          have hbd : Below w3.heap.size w3 wr.drew := Below.drew hb
          have HK := Lib.hid (fun W (h : Below w3.heap.size w3 W) => (show W.cell? ⟨w.heap.size, 0, none⟩ = some (.slice A n c) ∧ W.cell? ⟨w.heap.size, 1, none⟩ = some (.bool d.off) ∧ W.cell? ⟨w.heap.size, 2, none⟩ = some (.int .i64 d.fuse) from ⟨cell_of_row W _ 0 _ _ _ (HDD.out W h), cell_of_row W _ 1 _ _ _ (HDD.out W h), cell_of_row W _ 2 _ _ _ (HDD.out W h)⟩))
          have HCH : Hid (∀ wA wB, Boxed wA wr.drew.heap.size 9 (strV logN) → Boxed wA (wr.drew.heap.size + 1) 3 (.int .i64 (scanN d.log)) → Boxed wA (wr.drew.heap.size + 1 + 1) 9 (strV acc) → Below wr.drew.heap.size wr.drew wA →
              Boxed wB wA.heap.size 9 (strV logN) → Below wA.heap.size wA wB →
              Calls Try.prog 12 #[.agg #[.slice A n c, .bool d.off, .int .i64 d.fuse], .slice (some ⟨wB.heap.size, 0, none⟩) 2 2] (wB.alloc (.cells #[.func (.func 22) #[] #[.pointer (some ⟨wr.drew.heap.size, 0, none⟩), .pointer (some ⟨wr.drew.heap.size + 1, 0, none⟩), .pointer (some ⟨wr.drew.heap.size + 1 + 1, 0, none⟩)], .func (.func 24) #[] #[.pointer (some ⟨wA.heap.size, 0, none⟩)]] 41)) fun e wZ =>
                ∃ A5 n5 c5 S5, e = .returned (.tuple #[.agg #[.slice A5 n5 c5, .bool r.1.off, .int .i64 r.1.fuse], .int .i64 r.2]) ∧ wZ.heap[w.heap.size + 1]? = some (.cells #[.slice none 0 0, .bool false, .int .i64 0] 28 (0, 0)) ∧
                (wZ.cell? ⟨w.heap.size, 0, none⟩ = some (.slice A n c) ∧ wZ.cell? ⟨w.heap.size, 1, none⟩ = some (.bool d.off) ∧ wZ.cell? ⟨w.heap.size, 2, none⟩ = some (.int .i64 d.fuse)) ∧
                (∀ W, ((wZ.setCell ⟨w.heap.size + 1, 0, none⟩ (.slice A5 n5 c5)).setCell ⟨w.heap.size + 1, 1, none⟩ (.bool r.1.off)).setCell ⟨w.heap.size + 1, 2, none⟩ (.int .i64 r.1.fuse) = W → Lst fileR W S5 (.slice A5 n5 c5) r.1.files ∧ (∀ k, S5 k → k < W.heap.size ∧ (S k ∨ w.heap.size ≤ k)) ∧ Below w.heap.size w W)) := by
            intro wA wB a1 a2 a3 hbA a4 hbB
            have hzA := hbA.size
            have hzB := hbB.size
            have hb3A := hbd.trans (hbA.mono hbd.size)
            have hb3B := hb3A.trans (hbB.mono hb3A.size)
            have hb3C := hb3B.alloc hb3B.size (.cells #[.func (.func 22) #[] #[.pointer (some ⟨wr.drew.heap.size, 0, none⟩), .pointer (some ⟨wr.drew.heap.size + 1, 0, none⟩), .pointer (some ⟨wr.drew.heap.size + 1 + 1, 0, none⟩)], .func (.func 24) #[] #[.pointer (some ⟨wA.heap.size, 0, none⟩)]] 41)
            have hbl := HBL.out _ hb3C
            have hwz := hbl.2.size
            have hAC : ∀ k, k < wA.heap.size → (wB.alloc (.cells #[.func (.func 22) #[] #[.pointer (some ⟨wr.drew.heap.size, 0, none⟩), .pointer (some ⟨wr.drew.heap.size + 1, 0, none⟩), .pointer (some ⟨wr.drew.heap.size + 1 + 1, 0, none⟩)], .func (.func 24) #[] #[.pointer (some ⟨wA.heap.size, 0, none⟩)]] 41)).heap[k]? = wA.heap[k]? := fun k hk => (Below.heap_alloc _ _ _ (by omega)).trans (hbB.block k hk)
            refine (append_chain (k := scanN d.log) (s := acc) (g := wB.heap.size) hbl.1 (fun k hk => by have := hS k hk; omega) hok HOK2 hks ((hAC _ a1.lt).trans a1) ((hAC _ a2.lt).trans a2) ((hAC _ a3.lt).trans a3) ((Below.heap_alloc _ _ _ a4.lt).trans a4) (heap_new rfl _)).mono ?_
            rw [← hr]
            rintro e wZ ⟨v', S5, rfl, ⟨fv2, rfl, hlZ⟩, hSZ, hbZ⟩
            obtain ⟨A5, n5, c5, rfl, -⟩ := hlZ.form
            have hb3Z := hb3C.trans (hbZ.mono hb3C.size)
            refine ⟨A5, n5, c5, S5, rfl, HRES.out _ hb3Z, HK.out _ hb3Z, fun W hW => ?_⟩
            obtain ⟨f1, f2, f3, f4, f5, f6⟩ := disk_store (S := S) (HRES.out _ hb3Z) hlZ (fun k hk => ⟨(hSZ k hk).1, by rcases (hSZ k hk).2 with h | h; exact .inl h; exact .inr (by have := hb3C.size; omega)⟩) hS (.inr rfl) (HBL.out _ hb3Z).2 hW
            exact ⟨f3, fun k hk => ⟨(f4 k hk).1, by rcases (f4 k hk).2 with h | h; exact .inl h; exact .inr (by omega)⟩, f5⟩
          obtain ⟨p0, p1, p2⟩ := HK.out wr hb
          clear hr hbd
          go_region_held3 (fun w' => w'.cell? ⟨w.heap.size, 0, none⟩ = some (.slice A n c) ∧ w'.cell? ⟨w.heap.size, 1, none⟩ = some (.bool d.off) ∧ w'.cell? ⟨w.heap.size, 2, none⟩ = some (.int .i64 d.fuse)) (first | exact k1 | exact k2 | exact k3 | go_keep) (first
            | (go_at_call 13; refine (walWrite_any logN acc (scanN d.log) _).mono ?_; rintro e wA ⟨rfl, a1, a2, a3, hbA⟩; have k1 := HK.out wA ((Below.drew hb).trans (hbA.mono hb.size)))
            | (go_at_call 14; refine (walSync_any logN _).mono ?_; rintro e wB ⟨rfl, a4, hbB⟩; have k2 := HK.out wB (((Below.drew hb).trans (hbA.mono hb.size)).trans (hbB.mono (Nat.le_trans hb.size hbA.size))))
            | (go_at_call 12; refine (HCH.out wA wB a1 a2 a3 hbA a4 hbB).mono ?_; rintro e wZ ⟨A5, n5, c5, S5, rfl, hrZ, k3, hfin⟩; have HFN := Lib.hid hfin; have r0 : wZ.cell? ⟨w.heap.size + 1, 0, none⟩ = some (.slice none 0 0) := cell_of_row wZ _ 0 _ _ _ hrZ; have r1 : wZ.cell? ⟨w.heap.size + 1, 1, none⟩ = some (.bool false) := cell_of_row wZ _ 1 _ _ _ hrZ; have r2 : wZ.cell? ⟨w.heap.size + 1, 2, none⟩ = some (.int .i64 0) := cell_of_row wZ _ 2 _ _ _ hrZ; have r3 : wZ.frozen? ⟨w.heap.size + 1, 0, none⟩ = false := frozen_of_row wZ _ 0 _ _ hrZ; have r4 : wZ.frozen? ⟨w.heap.size + 1, 1, none⟩ = false := frozen_of_row wZ _ 1 _ _ hrZ; have r5 : wZ.frozen? ⟨w.heap.size + 1, 2, none⟩ = false := frozen_of_row wZ _ 2 _ _ hrZ; clear hrZ hfin))
          all_goals go_wp2_with fail
          all_goals obtain ⟨f1, f2, f3⟩ := HFN.out _ rfl
          all_goals refine bodyPost_ret (v := .tuple #[.agg #[.slice A5 n5 c5, .bool r.1.off, .int .i64 r.1.fuse], .int .i64 r.2]) ?_ rfl ?_
          all_goals first
            | (rw [HN.out]; exact ⟨_, S5, rfl, ⟨_, rfl, f1⟩, f2, f3⟩)
            | simp [results, Try.results6, go_sem, r0, r1, r2]

end Go.Proofs.Ytaalhhgjliofaaa
