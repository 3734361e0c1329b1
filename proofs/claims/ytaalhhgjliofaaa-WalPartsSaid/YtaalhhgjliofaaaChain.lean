/- Contracts of the program's log (silo/wal): acts one behind the other. -/
import Derived.Test.YtaalhhgjliofaaaLog
set_option linter.unusedVariables false
set_option linter.unusedSimpArgs false
set_option maxRecDepth 100000
namespace Go.Proofs.Ytaalhhgjliofaaa
open Go.RowKit Go.Shelf

/-- An act, as a value, and what it does. -/
structure ActT where
  K : Nat
  caps : List Value
  F : DiskM → DiskM × Nat
  Pre : DiskM → Prop
def ActT.val (a : ActT) : Value := .func (.func a.K) #[] a.caps.toArray
/-- The act does it, from the world W0 on. -/
structure ActT.Ok (a : ActT) (W0 : World) : Prop where
  enter : ∀ (args : Array Value) (w : World), (callFunc a.K args).run Try.prog w = .ok (.enter a.K args) w
  call : ∀ (S : Nat → Prop) (fv : Value) (d : DiskM) (W : World), Mods (fun k => W0.heap.size ≤ k) W0 W → Lst fileR W S fv d.files → (∀ k, S k → k < W.heap.size) → a.Pre d →
    Calls Try.prog a.K ((.agg #[fv, .bool d.off, .int .i64 d.fuse] :: a.caps).toArray) W (DPost W S (a.F d))
def chainM : List ActT → DiskM → DiskM × Nat
  | [], d => (d, 0)
  | a :: acts, d => if (a.F d).2 ≠ 0 then a.F d else chainM acts (a.F d).1
def PreAll : List ActT → DiskM → Prop
  | [], _ => True
  | a :: acts, d => a.Pre d ∧ ((a.F d).2 = 0 → PreAll acts (a.F d).1)
def actR : Rep ActT := Rep.flat 1 (fun a => [a.val]) (fun _ => rfl) (fun x u hu => by simp at hu; subst hu; rfl)

theorem wsync1_any (S : Nat → Prop) (fv : Value) (d : DiskM) (t : List UInt8) (bn : Nat) (w : World) (hn : Boxed w bn 9 (strV t)) (hf : Lst fileR w S fv d.files) (hS : ∀ k, S k → k < w.heap.size) (hok : LogOk d t) :
    Calls Try.prog 24 #[.agg #[fv, .bool d.off, .int .i64 d.fuse], .pointer (some ⟨bn, 0, none⟩)] w (DPost w S (d.sync t)) := by
  obtain ⟨A, n, c, rfl, hn', hnc, hcm⟩ := hf.form
  obtain ⟨w2, hw2⟩ : ∃ w2, (w.alloc (.cells #[.slice A n c, .bool d.off, .int .i64 d.fuse] 28)).alloc (.cells #[.slice none 0 0, .bool false, .int .i64 0] 28) = w2 := ⟨_, rfl⟩
  have hb2 : Below w.heap.size w w2 := by rw [← hw2]; exact ((Below.refl _ w).alloc (Nat.le_refl _) _).alloc (by simp) _
  have hz2 : w2.heap.size = w.heap.size + 2 := by rw [← hw2]; simp
  have hr2 : w2.heap[w.heap.size + 1]? = some (.cells #[.slice none 0 0, .bool false, .int .i64 0] 28 (0, 0)) := by rw [← hw2]; repeat (first | exact heap_new (by simp) _ | apply heap_old)
  have c0 : w.cell? ⟨bn, 0, none⟩ = some (.string (bt t)) := hn.cell
  have hlb := hn.lt
  have HSY := Lib.hid (sync_any S (.slice A n c) d t w2 (hf.keep (fun k hk => hb2.block k (hS k hk))) (fun k hk => by have := hS k hk; omega) (by have := hok.len; omega) hok.few hok.fuse hok.pos)
  have HW2 := Lib.hid hw2
  clear hw2 hn'
  go_enter Try.func24, Try.ntmps24
  go_wp2_with fail
  rw [HW2.out]
  refine HSY.out.mono ?_
  rintro e w3 ⟨v, S', rfl, ⟨fv2, rfl, hl3⟩, hS3, hb3⟩
  have hz3 := hb3.size
  have hr3 := (hb3.block _ (by omega)).trans hr2
  have HFIN := Lib.hid (write_fin (w := w) (d1 := (d.sync t).1) (b := w2.heap.size) (bf := w2.heap.size) (S := S) hb2 (Below.refl _ _) (mods_of_below hb3) hl3 hS3 hr3 (by omega) (by omega) (by omega) (by omega) hS)
  obtain ⟨A3, n3, c3', rfl, -⟩ := hl3.form
  have r0 : w3.cell? ⟨w.heap.size + 1, 0, none⟩ = some (.slice none 0 0) := cell_of_row w3 _ 0 _ _ _ hr3
  have r1 : w3.cell? ⟨w.heap.size + 1, 1, none⟩ = some (.bool false) := cell_of_row w3 _ 1 _ _ _ hr3
  have r2 : w3.cell? ⟨w.heap.size + 1, 2, none⟩ = some (.int .i64 0) := cell_of_row w3 _ 2 _ _ _ hr3
  have r3 : w3.frozen? ⟨w.heap.size + 1, 0, none⟩ = false := frozen_of_row w3 _ 0 _ _ hr3
  have r4 : w3.frozen? ⟨w.heap.size + 1, 1, none⟩ = false := frozen_of_row w3 _ 1 _ _ hr3
  have r5 : w3.frozen? ⟨w.heap.size + 1, 2, none⟩ = false := frozen_of_row w3 _ 2 _ _ hr3
  clear hl3 hS3 hb3 hr3 c0
  go_wp2_with fail
  obtain ⟨S9, f1, f2, f3⟩ := HFIN.out (.slice A3 n3 c3') (.bool (d.sync t).1.off) (.int .i64 (d.sync t).1.fuse)
  refine bodyPost_ret (v := .tuple #[.agg #[.slice A3 n3 c3', .bool (d.sync t).1.off, .int .i64 (d.sync t).1.fuse], .int .i64 (d.sync t).2]) ?_ rfl ?_
  · simp [results, Try.results24, go_sem, r0, r1, r2]
  · exact ⟨_, S9, rfl, ⟨_, rfl, f1⟩, f2, f3⟩

theorem wwrite1_any (S : Nat → Prop) (fv : Value) (d : DiskM) (t s : List UInt8) (k bn ba bs : Nat) (w : World) (hn : Boxed w bn 9 (strV t)) (ha : Boxed w ba 3 (.int .i64 k)) (hs : Boxed w bs 9 (strV s)) (hf : Lst fileR w S fv d.files) (hS : ∀ k, S k → k < w.heap.size) (hok : LogOk d t)
    (ht : nameB t = true) (hta : ∀ b ∈ t, b.toNat < 128) (hks : k + s.length ≤ 262144) :
    Calls Try.prog 22 #[.agg #[fv, .bool d.off, .int .i64 d.fuse], .pointer (some ⟨bn, 0, none⟩), .pointer (some ⟨ba, 0, none⟩), .pointer (some ⟨bs, 0, none⟩)] w (DPost w S (d.write t k s)) := by
  obtain ⟨A, n, c, rfl, hn', hnc, hcm⟩ := hf.form
  obtain ⟨w2, hw2⟩ : ∃ w2, (w.alloc (.cells #[.slice A n c, .bool d.off, .int .i64 d.fuse] 28)).alloc (.cells #[.slice none 0 0, .bool false, .int .i64 0] 28) = w2 := ⟨_, rfl⟩
  have hb2 : Below w.heap.size w w2 := by rw [← hw2]; exact ((Below.refl _ w).alloc (Nat.le_refl _) _).alloc (by simp) _
  have hz2 : w2.heap.size = w.heap.size + 2 := by rw [← hw2]; simp
  have hr2 : w2.heap[w.heap.size + 1]? = some (.cells #[.slice none 0 0, .bool false, .int .i64 0] 28 (0, 0)) := by rw [← hw2]; repeat (first | exact heap_new (by simp) _ | apply heap_old)
  have c0 : w.cell? ⟨bn, 0, none⟩ = some (.string (bt t)) := hn.cell
  have c1 : w.cell? ⟨ba, 0, none⟩ = some (.int .i64 k) := ha.cell
  have c2 : w.cell? ⟨bs, 0, none⟩ = some (.string (bt s)) := hs.cell
  have hlb := hn.lt
  have hlb1 := ha.lt
  have hlb2 := hs.lt
  have HSY := Lib.hid (write_any S (.slice A n c) d t k s w2 (hf.keep (fun k hk => hb2.block k (hS k hk))) (fun k hk => by have := hS k hk; omega) hok.len hok.ops hok.fuse hok.pos ht hta hks)
  have HW2 := Lib.hid hw2
  clear hw2 hn'
  go_enter Try.func22, Try.ntmps22
  go_wp2_with fail
  rw [HW2.out]
  refine HSY.out.mono ?_
  rintro e w3 ⟨v, S', rfl, ⟨fv2, rfl, hl3⟩, hS3, hb3⟩
  have hz3 := hb3.size
  have hr3 := (hb3.block _ (by omega)).trans hr2
  have HFIN := Lib.hid (write_fin (w := w) (d1 := (d.write t k s).1) (b := w2.heap.size) (bf := w2.heap.size) (S := S) hb2 (Below.refl _ _) (mods_of_below hb3) hl3 hS3 hr3 (by omega) (by omega) (by omega) (by omega) hS)
  obtain ⟨A3, n3, c3', rfl, -⟩ := hl3.form
  have r0 : w3.cell? ⟨w.heap.size + 1, 0, none⟩ = some (.slice none 0 0) := cell_of_row w3 _ 0 _ _ _ hr3
  have r1 : w3.cell? ⟨w.heap.size + 1, 1, none⟩ = some (.bool false) := cell_of_row w3 _ 1 _ _ _ hr3
  have r2 : w3.cell? ⟨w.heap.size + 1, 2, none⟩ = some (.int .i64 0) := cell_of_row w3 _ 2 _ _ _ hr3
  have r3 : w3.frozen? ⟨w.heap.size + 1, 0, none⟩ = false := frozen_of_row w3 _ 0 _ _ hr3
  have r4 : w3.frozen? ⟨w.heap.size + 1, 1, none⟩ = false := frozen_of_row w3 _ 1 _ _ hr3
  have r5 : w3.frozen? ⟨w.heap.size + 1, 2, none⟩ = false := frozen_of_row w3 _ 2 _ _ hr3
  clear hl3 hS3 hb3 hr3 c0 c1 c2
  go_wp2_with fail
  obtain ⟨S9, f1, f2, f3⟩ := HFIN.out (.slice A3 n3 c3') (.bool (d.write t k s).1.off) (.int .i64 (d.write t k s).1.fuse)
  refine bodyPost_ret (v := .tuple #[.agg #[.slice A3 n3 c3', .bool (d.write t k s).1.off, .int .i64 (d.write t k s).1.fuse], .int .i64 (d.write t k s).2]) ?_ rfl ?_
  · simp [results, Try.results22, go_sem, r0, r1, r2]
  · exact ⟨_, S9, rfl, ⟨_, rfl, f1⟩, f2, f3⟩

/-- A disk's value is stored into the variable. -/
theorem disk_store {w w1 : World} {D : Nat} {S S2 : Nat → Prop} {fv x y z : Value} {d1 : DiskM} (hD : w1.heap[D]? = some (.cells #[x, y, z] 28 (0, 0))) (hl : Lst fileR w1 S2 fv d1.files) (hS2 : ∀ k, S2 k → k < w1.heap.size ∧ (S k ∨ w.heap.size + 2 ≤ k)) (hS : ∀ k, S k → k < w.heap.size) (hDw : D = w.heap.size ∨ D = w.heap.size + 1) (hb : Below w.heap.size w w1) {W : World} (hW : ((w1.setCell ⟨D, 0, none⟩ fv).setCell ⟨D, 1, none⟩ (.bool d1.off)).setCell ⟨D, 2, none⟩ (.int .i64 d1.fuse) = W) :
    W.heap[D]? = some (.cells #[fv, .bool d1.off, .int .i64 d1.fuse] 28 (0, 0)) ∧ (∀ k, k ≠ D → W.heap[k]? = w1.heap[k]?) ∧ Lst fileR W S2 fv d1.files ∧ (∀ k, S2 k → k < W.heap.size ∧ (S k ∨ w.heap.size + 2 ≤ k)) ∧ Below w.heap.size w W ∧ W.heap.size = w1.heap.size := by
  subst hW
  have hoth : ∀ k, k ≠ D → (((w1.setCell ⟨D, 0, none⟩ fv).setCell ⟨D, 1, none⟩ (.bool d1.off)).setCell ⟨D, 2, none⟩ (.int .i64 d1.fuse)).heap[k]? = w1.heap[k]? := fun k hk =>
    (Below.heap_setCell _ ⟨D, 2, none⟩ _ k hk).trans ((Below.heap_setCell _ ⟨D, 1, none⟩ _ k hk).trans (Below.heap_setCell _ ⟨D, 0, none⟩ _ k hk))
  have hsz : (((w1.setCell ⟨D, 0, none⟩ fv).setCell ⟨D, 1, none⟩ (.bool d1.off)).setCell ⟨D, 2, none⟩ (.int .i64 d1.fuse)).heap.size = w1.heap.size := by simp
  refine ⟨?_, hoth, hl.keep (fun k hk => hoth k (fun e => ?_)), fun k hk => by rw [hsz]; exact hS2 k hk, hb.trans ⟨rfl, rfl, rfl, by rw [hsz]; exact Nat.le_refl _, fun k hk => hoth k (by omega)⟩, hsz⟩
  · have e1 := heap_setCell_same w1 D 0 _ _ fv hD
    have e2 := heap_setCell_same _ D 1 _ _ (.bool d1.off) e1
    have e3 := heap_setCell_same _ D 2 _ _ (.int .i64 d1.fuse) e2
    simpa using e3
  · rcases (hS2 k hk).2 with h | h
    · have := hS k h; omega
    · omega

set_option maxHeartbeats 1000000 in
theorem chain_any (S : Nat → Prop) (fv : Value) (d : DiskM) (acts : List ActT) (A2 : Option Addr) (m c2 : Nat) (Sa : Nat → Prop) (W0 w : World) (hm0 : Mods (fun k => W0.heap.size ≤ k) W0 w) (hf : Lst fileR w S fv d.files) (hS : ∀ k, S k → k < w.heap.size) (ha : Lst actR w Sa (.slice A2 m c2) acts) (hSa : ∀ k, Sa k → k < w.heap.size) (hal : acts.length ≤ 1000)
    (hok : ∀ a ∈ acts, a.Ok W0) (hpre : PreAll acts d) :
    Calls Try.prog 12 #[.agg #[fv, .bool d.off, .int .i64 d.fuse], .slice A2 m c2] w (DPost w S (chainM acts d)) := by
  obtain ⟨A, n, c, rfl, hn, hnc, hcm⟩ := hf.form
  obtain ⟨hm, hmc, hmm, -⟩ := ha.src
  have HM := Lib.hid hm
  have hm3 : m ≤ 1000 := by omega
  have HA := Lib.hid ha
  have HF := Lib.hid hf
  clear hn hm ha
  go_enter Try.func12, Try.ntmps12
  go_wp2_with fail
  go_loopw [11] (fun vi wr => ∃ i dd fvv S', vi = .int .i64 (i : Nat) ∧ i ≤ m ∧ chainM (acts.drop i) dd = chainM acts d ∧ PreAll (acts.drop i) dd ∧ wr.heap[w.heap.size]? = some (.cells #[fvv, .bool dd.off, .int .i64 dd.fuse] 28 (0, 0)) ∧ wr.heap[w.heap.size + 1]? = some (.cells #[.slice none 0 0, .bool false, .int .i64 0] 28 (0, 0)) ∧
      Lst fileR wr S' fvv dd.files ∧ (∀ k, S' k → k < wr.heap.size ∧ (S k ∨ w.heap.size + 2 ≤ k)) ∧ Below w.heap.size w wr) (fun vi _ => m - (intOf vi).toNat)
  case atStart =>
    refine ⟨0, d, .slice A n c, S, rfl, Nat.zero_le _, rfl, hpre, ?_, ?_, ?_, fun k hk => ⟨by have := hS k hk; simp; omega, .inl hk⟩, ((Below.refl _ w).alloc (Nat.le_refl _) _).alloc (by simp) _⟩
    · repeat (first | exact heap_new (by simp) _ | apply heap_old)
    · repeat (first | exact heap_new (by simp) _ | apply heap_old)
    · exact hf.keep (fun k hk => (Below.heap_alloc _ _ _ (by have := hS k hk; simp; omega)).trans (Below.heap_alloc _ _ _ (hS k hk)))
  case round =>
    obtain ⟨i, dd, fvv, S', rfl, hi, hch, hpr, hD, hR, hl, hSS, hb⟩ := hrel
    obtain ⟨A3, n3, c3, rfl, -⟩ := hl.form
    have hz := hb.size
    have hzw : w.heap.size + 1 < wr.heap.size := (Array.getElem?_eq_some_iff.1 hR).1
    have d0 : wr.cell? ⟨w.heap.size, 0, none⟩ = some (.slice A3 n3 c3) := cell_of_row wr _ 0 _ _ _ hD
    have d1 : wr.cell? ⟨w.heap.size, 1, none⟩ = some (.bool dd.off) := cell_of_row wr _ 1 _ _ _ hD
    have d2 : wr.cell? ⟨w.heap.size, 2, none⟩ = some (.int .i64 dd.fuse) := cell_of_row wr _ 2 _ _ _ hD
    have HCH := Lib.hid hch
    clear hch
    by_cases hlt : i < m
    · have hil : i < acts.length := by have := HM.out; omega
      obtain ⟨ad, cs, hA, hsa, hrd, hcl⟩ := HA.out.at_ (List.getElem?_eq_getElem hil)
      have hact := hok acts[i] (List.getElem_mem hil)
      have hdr : acts.drop i = acts[i] :: acts.drop (i + 1) := List.drop_eq_getElem_cons hil
      have HCH2 : Hid (chainM (acts[i] :: acts.drop (i + 1)) dd = chainM acts d) := by rw [← hdr]; exact HCH.out
      rw [hdr] at hpr
      generalize acts[i] = a at *
      obtain ⟨K, caps, F, Pre⟩ := a
      have hrd : cs = [.func (.func K) #[] caps.toArray] := hrd
      subst hrd hA
      have c0 : wr.cell? (ad.add i) = some (.func (.func K) #[] caps.toArray) := by
        have h := hcl 0 _ rfl
        rw [show i * actR.sz + 0 = i from by show i * 1 + 0 = i; omega] at h
        exact (hb.cell (by rw [block_add]; exact hSa _ hsa)).trans h
      have heK := hact.enter
      have HCALL := Lib.hid (hact.call S' (.slice A3 n3 c3) dd wr (hm0.trans (mods_of_below hb)) hl (fun k hk => (hSS k hk).1) hpr.1)
      have HPR := Lib.hid hpr
      have hd : decide ((i : Int) < (m : Int)) = true := decide_eq_true (by omega)
      clear hact hcl hpr
      simp only at heK
      go_wp2_with fail
      refine HCALL.out.mono ?_
      rintro e w1 ⟨v, S2, rfl, ⟨fv2, rfl, hl2⟩, hS2, hb2⟩
      obtain ⟨A4, n4, c4, rfl, -⟩ := hl2.form
      have hz1 := hb2.size
      have hD1 := (hb2.block _ (by omega)).trans hD
      have hR1 := (hb2.block _ (by omega)).trans hR
      obtain ⟨w2, hw2⟩ : ∃ w2, ((w1.setCell ⟨w.heap.size, 0, none⟩ (.slice A4 n4 c4)).setCell ⟨w.heap.size, 1, none⟩ (.bool (F dd).1.off)).setCell ⟨w.heap.size, 2, none⟩ (.int .i64 (F dd).1.fuse) = w2 := ⟨_, rfl⟩
      obtain ⟨g1, g2, g3, g4, g5, g6⟩ := disk_store (S := S) hD1 hl2 (fun k hk => ⟨(hS2 k hk).1, by rcases (hS2 k hk).2 with h | h; exact (hSS k h).2; exact .inr (by omega)⟩) hS (.inl rfl) (hb.trans (hb2.mono hz)) hw2
      have hR2 := (g2 (w.heap.size + 1) (by omega)).trans hR1
      have q0 : w1.cell? ⟨w.heap.size, 0, none⟩ = some (.slice A3 n3 c3) := cell_of_row w1 _ 0 _ _ _ hD1
      have q1 : w1.cell? ⟨w.heap.size, 1, none⟩ = some (.bool dd.off) := cell_of_row w1 _ 1 _ _ _ hD1
      have q2 : w1.cell? ⟨w.heap.size, 2, none⟩ = some (.int .i64 dd.fuse) := cell_of_row w1 _ 2 _ _ _ hD1
      have q3 : w1.frozen? ⟨w.heap.size, 0, none⟩ = false := frozen_of_row w1 _ 0 _ _ hD1
      have q4 : w1.frozen? ⟨w.heap.size, 1, none⟩ = false := frozen_of_row w1 _ 1 _ _ hD1
      have q5 : w1.frozen? ⟨w.heap.size, 2, none⟩ = false := frozen_of_row w1 _ 2 _ _ hD1
      have HW2 := Lib.hid hw2
      clear hw2 d0 d1 d2 c0 heK
      go_wp2_with fail
      rw [HW2.out]
      clear q0 q1 q2 q3 q4 q5
      refine (errorsIs_any _ _ _).mono ?_
      rintro e w3 ⟨rfl, rfl⟩
      by_cases he : (F dd).2 = 0
      · have he2 : ((((F dd).2 : Nat) : Int) == 0) = true := by simp [he]
        have HE : Hid (chainM (acts.drop (i + 1)) (F dd).1 = chainM acts d) := by
          have := HCH2.out
          rw [chainM, if_neg (by simpa using he)] at this
          exact this
        have HP2 := Lib.hid (HPR.out.2 he)
        have HEE := Lib.hid he
        clear he
        go_wp2_with fail
        go_roundw
        case rel => exact ⟨i + 1, (F dd).1, _, S2, by go_num, by omega, HE.out, HP2.out, g1, hR2, g3, g4, g5⟩
        case measure => simp [intOf]; omega
      · have he2 : ((((F dd).2 : Nat) : Int) == 0) = false := by simpa using he
        have HE : Hid (chainM acts d = F dd) := by
          have := HCH2.out
          rw [chainM, if_pos (by simpa using he)] at this
          exact this.symm
        clear he
        have p0 : w2.cell? ⟨w.heap.size, 0, none⟩ = some (.slice A4 n4 c4) := cell_of_row w2 _ 0 _ _ _ g1
        have p1 : w2.cell? ⟨w.heap.size, 1, none⟩ = some (.bool (F dd).1.off) := cell_of_row w2 _ 1 _ _ _ g1
        have p2 : w2.cell? ⟨w.heap.size, 2, none⟩ = some (.int .i64 (F dd).1.fuse) := cell_of_row w2 _ 2 _ _ _ g1
        have r0 : w2.cell? ⟨w.heap.size + 1, 0, none⟩ = some (.slice none 0 0) := cell_of_row w2 _ 0 _ _ _ hR2
        have r1 : w2.cell? ⟨w.heap.size + 1, 1, none⟩ = some (.bool false) := cell_of_row w2 _ 1 _ _ _ hR2
        have r2 : w2.cell? ⟨w.heap.size + 1, 2, none⟩ = some (.int .i64 0) := cell_of_row w2 _ 2 _ _ _ hR2
        have r3 : w2.frozen? ⟨w.heap.size + 1, 0, none⟩ = false := frozen_of_row w2 _ 0 _ _ hR2
        have r4 : w2.frozen? ⟨w.heap.size + 1, 1, none⟩ = false := frozen_of_row w2 _ 1 _ _ hR2
        have r5 : w2.frozen? ⟨w.heap.size + 1, 2, none⟩ = false := frozen_of_row w2 _ 2 _ _ hR2
        have HFIN := Lib.hid (disk_store (S := S) hR2 g3 g4 hS (.inr rfl) g5 rfl)
        clear g1 g2 g3 g4 g5 g6 hR2 hD1 hR1 hD hR
        go_wp2_with fail
        obtain ⟨f1, f2, f3, f4, f5, f6⟩ := HFIN.out
        refine bodyPost_ret (v := .tuple #[.agg #[.slice A4 n4 c4, .bool (F dd).1.off, .int .i64 (F dd).1.fuse], .int .i64 (F dd).2]) ?_ rfl ?_
        · simp [results, Try.results12, go_sem, r0, r1, r2]
        · rw [HE.out]
          exact ⟨_, S2, rfl, ⟨_, rfl, f3⟩, fun k hk => ⟨(f4 k hk).1, by rcases (f4 k hk).2 with h | h; exact .inl h; exact .inr (by omega)⟩, f5⟩
    · have hd : decide ((i : Int) < (m : Int)) = false := decide_eq_false (by omega)
      have HE : Hid (chainM acts d = (dd, 0)) := by
        have := HCH.out
        rw [List.drop_eq_nil_of_le (by have := HM.out; omega)] at this
        exact this.symm
      have r0 : wr.cell? ⟨w.heap.size + 1, 0, none⟩ = some (.slice none 0 0) := cell_of_row wr _ 0 _ _ _ hR
      have r1 : wr.cell? ⟨w.heap.size + 1, 1, none⟩ = some (.bool false) := cell_of_row wr _ 1 _ _ _ hR
      have r2 : wr.cell? ⟨w.heap.size + 1, 2, none⟩ = some (.int .i64 0) := cell_of_row wr _ 2 _ _ _ hR
      have r3 : wr.frozen? ⟨w.heap.size + 1, 0, none⟩ = false := frozen_of_row wr _ 0 _ _ hR
      have r4 : wr.frozen? ⟨w.heap.size + 1, 1, none⟩ = false := frozen_of_row wr _ 1 _ _ hR
      have r5 : wr.frozen? ⟨w.heap.size + 1, 2, none⟩ = false := frozen_of_row wr _ 2 _ _ hR
      have HFIN := Lib.hid (disk_store (S := S) hR hl hSS hS (.inr rfl) hb rfl)
      clear hR hD hl hSS hpr
      go_wp2_with fail
      obtain ⟨f1, f2, f3, f4, f5, f6⟩ := HFIN.out
      refine bodyPost_ret (v := .tuple #[.agg #[.slice A3 n3 c3, .bool dd.off, .int .i64 dd.fuse], .int .i64 0]) ?_ rfl ?_
      · simp [results, Try.results12, go_sem, r0, r1, r2]
      · rw [HE.out]
        exact ⟨_, S', rfl, ⟨_, rfl, f3⟩, fun k hk => ⟨(f4 k hk).1, by rcases (f4 k hk).2 with h | h; exact .inl h; exact .inr (by omega)⟩, f5⟩

end Go.Proofs.Ytaalhhgjliofaaa
