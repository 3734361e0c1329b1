/- Contracts of the program's disk (silo/disk): something is done with it. -/
import Derived.Test.YtaalhhgjliofaaaSet
set_option linter.unusedVariables false
set_option linter.unusedSimpArgs false
set_option maxRecDepth 100000
namespace Go.Proofs.Ytaalhhgjliofaaa
open Go.RowKit Go.Shelf

theorem missing_any (S : Nat → Prop) (b : Nat) (fv : Value) (off : Bool) (fuse : Int) (fs : List FileM) (t : List UInt8) (w : World) (hm : Mach w b fv off fuse) (hf : Lst fileR w S fv fs) (hS : ∀ k, S k → k < w.heap.size) (hlen : fs.length ≤ 1000000) :
    Calls Try.prog 40 #[.pointer (some ⟨b, 0, none⟩), strV t] w fun e w' =>
      e = .returned (.int .i64 (noneE (bsL (fs.map (·.name)) t).2)) ∧ Below w.heap.size w w' := by
  go_enter Try.func40, Try.ntmps40
  go_wp2_with fail
  refine (at_any S b fv off fuse fs t w hm hf hS hlen).mono ?_
  rintro e w1 ⟨rfl, hb1⟩
  cases hfind : (bsL (fs.map (·.name)) t).2 with
  | true =>
    go_wp2_with fail
    go_ret
    exact ⟨by rw [hfind]; rfl, hb1⟩
  | false =>
    go_wp2_with fail
    go_ret
    exact ⟨by rw [hfind]; rfl, hb1⟩

set_option maxHeartbeats 4000000 in
theorem act_any (K : Nat) (caps : Array Value) (S M : Nat → Prop) (b : Nat) (fv : Value) (d : DiskM) (fs2 : List FileM) (wrong : Nat) (w : World) (hm : Mach w b fv d.off d.fuse) (hf : Lst fileR w S fv d.files) (hS : ∀ k, S k → k < w.heap.size) (hbS : ¬ S b) (hM : ∀ k, M k → k < w.heap.size)
    (hlen : d.files.length ≤ 1000000) (hfu : -1 ≤ d.fuse ∧ d.fuse ≤ 1048576)
    (heK : ∀ w, (callFunc K caps).run Try.prog w = .ok (.enter K caps) w)
    (hdo : d.off = false → wrong = 0 → d.fuse ≠ 0 → ∀ W fv' fuse', Mods (fun k => k = b) w W → w.heap.size < W.heap.size → Mach W b fv' d.off fuse' → Own fileR W (w.heap.size + 1) 46 S fv' d.files →
      Calls Try.prog K caps W fun e W' => e = .returned (.tuple #[]) ∧ ∃ fv2 S2, Mach W' b fv2 d.off fuse' ∧ Lst fileR W' S2 fv2 fs2 ∧ (∀ k, S2 k → k < W'.heap.size ∧ (S k ∨ w.heap.size < k)) ∧ Mods (fun k => k = b ∨ M k ∨ fv'.ownBlock = some k) W W') :
    Calls Try.prog 36 #[.pointer (some ⟨b, 0, none⟩), .int .i64 wrong, .func (.func K) #[] caps] w fun e w' =>
      ∃ v S', e = .returned (.tuple #[v, .int .i64 (actD d wrong fs2).2]) ∧ DiskV w' S' v (actD d wrong fs2).1 ∧ (∀ k, S' k → k < w'.heap.size ∧ (S k ∨ w.heap.size ≤ k)) ∧ Mods (fun k => k = b ∨ M k) w w' := by
  have hblt : b < w.heap.size := (Array.getElem?_eq_some_iff.1 hm).1
  obtain ⟨A, n, c, rfl, hn, hnc, hcm⟩ := hf.form
  have HN := Lib.hid hn
  clear hn
  have b0 : w.cell? ⟨b, 0, none⟩ = some (.slice A n c) := cell_of_row w _ 0 _ _ _ hm
  have b1 : w.cell? ⟨b, 1, none⟩ = some (.bool d.off) := cell_of_row w _ 1 _ _ _ hm
  have b2 : w.cell? ⟨b, 2, none⟩ = some (.int .i64 d.fuse) := cell_of_row w _ 2 _ _ _ hm
  have g0 : w.frozen? ⟨b, 0, none⟩ = false := frozen_of_row w b 0 _ _ hm
  have g1 : w.frozen? ⟨b, 1, none⟩ = false := frozen_of_row w b 1 _ _ hm
  have g2 : w.frozen? ⟨b, 2, none⟩ = false := frozen_of_row w b 2 _ _ hm
  obtain ⟨q1, q2⟩ := hfu
  have HD := Lib.hid hdo
  have HSm : Hid (∀ w', Mods (fun k => k = b) w w' → Lst fileR w' S (.slice A n c) d.files ∧ (∀ k, S k → k < w'.heap.size ∧ (S k ∨ w.heap.size ≤ k)) ∧ Mods (fun k => k = b ∨ M k) w w') := by
    intro w' hmo
    exact ⟨hf.keep (fun k hk => hmo.block k (fun e => hbS (e ▸ hk)) (hS k hk)), fun k hk => ⟨Nat.lt_of_lt_of_le (hS k hk) hmo.size, .inl hk⟩, hmo.imp (fun k _ hk h => hk (.inl h))⟩
  clear hdo
  cases hoff : d.off with
  | true =>
    rw [hoff] at b1
    have HA : Hid (actD d wrong fs2 = (d, 13)) := by unfold actD; rw [hoff]; rfl
    have HO := Lib.hid hoff
    clear hoff
    go_enter Try.func36, Try.ntmps36
    go_wp2_with fail
    refine bodyPost_ret (v := .tuple #[.agg #[.slice A n c, .bool true, .int .i64 d.fuse], .int .i64 13]) ?_ rfl ?_
    · simp [results, Try.results36, go_sem]
    · obtain ⟨h1, h2, h3⟩ := HSm.out _ (Mods.alloc _ _ _)
      rw [HA.out]
      exact ⟨_, S, rfl, ⟨_, by rw [HO.out], h1⟩, h2, h3⟩
  | false =>
    rw [hoff] at b1 hm
    by_cases hw0 : wrong = 0
    · by_cases hf0 : d.fuse = 0
      · have HA : Hid (actD d wrong fs2 = (⟨d.files, true, -1⟩, 13)) := by unfold actD; rw [hoff, if_neg (by simp), if_neg (by simpa using hw0), if_pos hf0]; exact rfl
        subst hw0
        rw [hf0] at b2 hm
        have HO := Lib.hid hoff
        clear hoff q1 q2 hf0
        go_enter Try.func36, Try.ntmps36
        go_wp2_with fail
        refine bodyPost_ret (v := .tuple #[.agg #[.slice A n c, .bool true, .int .i64 (-1)], .int .i64 13]) ?_ rfl ?_
        · simp [results, Try.results36, go_sem]
        · obtain ⟨h1, h2, h3⟩ := HSm.out _ (((Mods.setCell (M := fun k => k = b) w (p := ⟨b, 1, none⟩) (fun _ => rfl) _).trans (Mods.setCell (M := fun k => k = b) _ (p := ⟨b, 2, none⟩) (fun _ => rfl) _)).trans (Mods.alloc _ _ _))
          rw [HA.out]
          exact ⟨_, rfl, S, ⟨_, rfl, h1⟩, h2, h3⟩
      · subst hw0
        have HO := Lib.hid hoff
        have HF0 := Lib.hid hf0
        by_cases hfp : 0 < d.fuse
        · have HA : Hid (actD d 0 fs2 = (⟨fs2, d.off, d.fuse - 1⟩, 0)) := by unfold actD; rw [hoff, if_neg (by simp), if_neg (by simp), if_neg hf0, if_pos hfp]; exact rfl
          have hd1 : decide (0 < d.fuse) = true := decide_eq_true hfp
          have hd2 : (d.fuse == 0) = false := by simpa using hf0
          have hw1 : IntKind.i64.wrap (d.fuse - 1) = d.fuse - 1 := IntWalk.i64_in _ (by omega)
          clear hoff hf0 hfp
          obtain ⟨w1, hw1⟩ : ∃ w1, (w.setCell ⟨b, 2, none⟩ (.int .i64 (d.fuse - 1))).alloc (.cells #[.slice none 0 0, .bool false, .int .i64 0] 28) = w1 := ⟨_, rfl⟩
          have hmo1 : Mods (fun k => k = b) w w1 := by rw [← hw1]; exact ((Mods.setCell (M := fun k => k = b) w (fun _ => rfl) _).trans (Mods.alloc _ _ _))
          have hz1 : w1.heap.size = w.heap.size + 1 := by rw [← hw1]; simp
          have hm1 : Mach w1 b (.slice A n c) false (d.fuse - 1) := by
            rw [← hw1]
            refine (Below.heap_alloc _ _ _ (by first | exact hblt | (simp; omega))).trans ?_
            simpa using heap_setCell_same w b 2 _ _ (.int .i64 (d.fuse - 1)) hm
          have hr1 : w1.heap[w.heap.size]? = some (.cells #[.slice none 0 0, .bool false, .int .i64 0] 28 (0, 0)) := by
            rw [← hw1]; rw [show w.heap.size = (w.setCell ⟨b, 2, none⟩ (.int .i64 (d.fuse - 1))).heap.size by simp]; exact World.alloc_heap_new _ _
          have hf1 : Lst fileR w1 S (.slice A n c) d.files := (HSm.out w1 hmo1).1
          have p0 : w1.cell? ⟨b, 0, none⟩ = some (.slice A n c) := cell_of_row w1 _ 0 _ _ _ hm1
          have p1 : w1.cell? ⟨b, 1, none⟩ = some (.bool false) := cell_of_row w1 _ 1 _ _ _ hm1
          have p2 : w1.cell? ⟨b, 2, none⟩ = some (.int .i64 (d.fuse - 1)) := cell_of_row w1 _ 2 _ _ _ hm1
          go_enter Try.func36, Try.ntmps36
          go_wp2_with fail
          refine (clone_files S _ d.files w1 hf1 (fun k hk => by have := hS k hk; omega) hlen).mono ?_
          rintro e w2 ⟨v', rfl, ho2, hb2⟩
          obtain ⟨A2, n2, c2, rfl, -⟩ := ho2.read.form
          have hz2 := hb2.size
          have hlt2 := ho2.lt
          have hm2 : Mach w2 b (.slice A n c) false (d.fuse - 1) := (hb2.block b (by omega)).trans hm1
          have hr2 : w2.heap[w.heap.size]? = some (.cells #[.slice none 0 0, .bool false, .int .i64 0] 28 (0, 0)) := (hb2.block _ (by omega)).trans hr1
          obtain ⟨w3, hw3⟩ : ∃ w3, w2.setCell ⟨b, 0, none⟩ (.slice A2 n2 c2) = w3 := ⟨_, rfl⟩
          have hmo3 : Mods (fun k => k = b) w w3 := by rw [← hw3]; exact (hmo1.trans (mods_of_below hb2)).trans (Mods.setCell (M := fun k => k = b) _ (fun _ => rfl) _)
          have hz3 : w3.heap.size = w2.heap.size := by rw [← hw3]; simp
          have hm3 : Mach w3 b (.slice A2 n2 c2) false (d.fuse - 1) := by rw [← hw3]; simpa using heap_setCell_same w2 b 0 _ _ (.slice A2 n2 c2) hm2
          have hr3 : w3.heap[w.heap.size]? = some (.cells #[.slice none 0 0, .bool false, .int .i64 0] 28 (0, 0)) := by rw [← hw3]; exact (Below.heap_setCell _ _ _ _ (by simp; omega)).trans hr2
          have ho3 : Own fileR w3 (w.heap.size + 1) 46 S (.slice A2 n2 c2) d.files := by
            rw [← hw3]
            refine (ho2.rebase (by omega)).same (fun k hk => Below.heap_setCell _ _ _ _ ?_)
            intro e
            have e : k = b := e
            rcases hk with h | h
            · exact hbS (e ▸ h)
            · have : w1.heap.size ≤ k := (hlt2 _ h).1; omega
          clear b0 g0 b1 b2 g1 g2
          have b0 : w2.cell? ⟨b, 0, none⟩ = some (.slice A n c) := cell_of_row w2 _ 0 _ _ _ hm2
          have g0 : w2.frozen? ⟨b, 0, none⟩ = false := frozen_of_row w2 b 0 _ _ hm2
          clear hw1
          go_wp2_with fail
          refine (HD.out HO.out (by first | rfl | trivial) HF0.out w3 _ _ hmo3 (by omega) (by rw [HO.out]; exact hm3) ho3).mono ?_
          rintro e w4 ⟨rfl, fv2, S2, hm4, hl4, hS4, hmo4⟩
          rw [HO.out] at hm4
          obtain ⟨A4, n4, c4, rfl, -⟩ := hl4.form
          have hr4 : w4.heap[w.heap.size]? = some (.cells #[.slice none 0 0, .bool false, .int .i64 0] 28 (0, 0)) := by
            refine (hmo4.block _ ?_ (by omega)).trans hr3
            rintro (h | h | h)
            · omega
            · have := hM _ h; omega
            · have := (hlt2 _ h).1; omega
          have hrb : b ≠ w.heap.size := by omega
          clear hw3 b0 g0 p0 p1 p2
          have m0 : w4.cell? ⟨b, 0, none⟩ = some (.slice A4 n4 c4) := cell_of_row w4 _ 0 _ _ _ hm4
          have m1 : w4.cell? ⟨b, 1, none⟩ = some (.bool false) := cell_of_row w4 _ 1 _ _ _ hm4
          have m2 : w4.cell? ⟨b, 2, none⟩ = some (.int .i64 (d.fuse - 1)) := cell_of_row w4 _ 2 _ _ _ hm4
          have r0 : w4.cell? ⟨w.heap.size, 0, none⟩ = some (.slice none 0 0) := cell_of_row w4 _ 0 _ _ _ hr4
          have r1 : w4.cell? ⟨w.heap.size, 1, none⟩ = some (.bool false) := cell_of_row w4 _ 1 _ _ _ hr4
          have r2 : w4.cell? ⟨w.heap.size, 2, none⟩ = some (.int .i64 0) := cell_of_row w4 _ 2 _ _ _ hr4
          have s0 : w4.frozen? ⟨w.heap.size, 0, none⟩ = false := frozen_of_row w4 _ 0 _ _ hr4
          have s1 : w4.frozen? ⟨w.heap.size, 1, none⟩ = false := frozen_of_row w4 _ 1 _ _ hr4
          have s2 : w4.frozen? ⟨w.heap.size, 2, none⟩ = false := frozen_of_row w4 _ 2 _ _ hr4
          have hmo : Mods (fun k => k = b ∨ M k) w w4 := by
            refine ⟨hmo4.os.trans hmo3.os, hmo4.tape.trans hmo3.tape, hmo4.output.trans hmo3.output, Nat.le_trans hmo3.size hmo4.size, fun k hk hl => (hmo4.block k ?_ (by omega)).trans (hmo3.block k (fun h => hk (.inl h)) hl)⟩
            rintro (h | h | h)
            · exact hk (.inl h)
            · exact hk (.inr h)
            · have := (hlt2 _ h).1; omega
          go_wp2_with fail
          refine bodyPost_ret (v := .tuple #[.agg #[.slice A4 n4 c4, .bool false, .int .i64 (d.fuse - 1)], .int .i64 0]) ?_ rfl ?_
          · simp [results, Try.results36, go_sem, r0, r1, r2]
          · have hoth : ∀ k, k ≠ w.heap.size → (((w4.setCell ⟨w.heap.size, 0, none⟩ (.slice A4 n4 c4)).setCell ⟨w.heap.size, 1, none⟩ (.bool false)).setCell ⟨w.heap.size, 2, none⟩ (.int .i64 (d.fuse - 1))).heap[k]? = w4.heap[k]? := fun k hk =>
              (Below.heap_setCell _ ⟨w.heap.size, 2, none⟩ _ k hk).trans ((Below.heap_setCell _ ⟨w.heap.size, 1, none⟩ _ k hk).trans (Below.heap_setCell _ ⟨w.heap.size, 0, none⟩ _ k hk))
            rw [HA.out]
            refine ⟨_, S2, rfl, ⟨_, by rw [HO.out], hl4.keep (fun k hk => hoth k (fun e => by rcases (hS4 k hk).2 with h | h; (have := hS k h; omega); omega))⟩, fun k hk => ⟨by simpa using (hS4 k hk).1, by rcases (hS4 k hk).2 with h | h; exact .inl h; exact .inr (by omega)⟩, ?_⟩
            exact ⟨hmo.os, hmo.tape, hmo.output, by simpa using hmo.size, fun k hk hl => (hoth k (by omega)).trans (hmo.block k hk hl)⟩
        · have HA : Hid (actD d 0 fs2 = (⟨fs2, d.off, d.fuse⟩, 0)) := by unfold actD; rw [hoff, if_neg (by simp), if_neg (by simp), if_neg hf0, if_neg hfp]; exact rfl
          have hd1 : decide (0 < d.fuse) = false := decide_eq_false hfp
          have hd2 : (d.fuse == 0) = false := by simpa using hf0
          clear hoff hf0 hfp
          obtain ⟨w1, hw1⟩ : ∃ w1, w.alloc (.cells #[.slice none 0 0, .bool false, .int .i64 0] 28) = w1 := ⟨_, rfl⟩
          have hmo1 : Mods (fun k => k = b) w w1 := by rw [← hw1]; exact Mods.alloc _ _ _
          have hz1 : w1.heap.size = w.heap.size + 1 := by rw [← hw1]; simp
          have hm1 : Mach w1 b (.slice A n c) false (d.fuse) := by
            rw [← hw1]
            refine (Below.heap_alloc _ _ _ (by first | exact hblt | (simp; omega))).trans ?_
            exact hm
          have hr1 : w1.heap[w.heap.size]? = some (.cells #[.slice none 0 0, .bool false, .int .i64 0] 28 (0, 0)) := by
            rw [← hw1]; rw [show w.heap.size = w.heap.size from rfl]; exact World.alloc_heap_new _ _
          have hf1 : Lst fileR w1 S (.slice A n c) d.files := (HSm.out w1 hmo1).1
          have p0 : w1.cell? ⟨b, 0, none⟩ = some (.slice A n c) := cell_of_row w1 _ 0 _ _ _ hm1
          have p1 : w1.cell? ⟨b, 1, none⟩ = some (.bool false) := cell_of_row w1 _ 1 _ _ _ hm1
          have p2 : w1.cell? ⟨b, 2, none⟩ = some (.int .i64 (d.fuse)) := cell_of_row w1 _ 2 _ _ _ hm1
          go_enter Try.func36, Try.ntmps36
          go_wp2_with fail
          refine (clone_files S _ d.files w1 hf1 (fun k hk => by have := hS k hk; omega) hlen).mono ?_
          rintro e w2 ⟨v', rfl, ho2, hb2⟩
          obtain ⟨A2, n2, c2, rfl, -⟩ := ho2.read.form
          have hz2 := hb2.size
          have hlt2 := ho2.lt
          have hm2 : Mach w2 b (.slice A n c) false (d.fuse) := (hb2.block b (by omega)).trans hm1
          have hr2 : w2.heap[w.heap.size]? = some (.cells #[.slice none 0 0, .bool false, .int .i64 0] 28 (0, 0)) := (hb2.block _ (by omega)).trans hr1
          obtain ⟨w3, hw3⟩ : ∃ w3, w2.setCell ⟨b, 0, none⟩ (.slice A2 n2 c2) = w3 := ⟨_, rfl⟩
          have hmo3 : Mods (fun k => k = b) w w3 := by rw [← hw3]; exact (hmo1.trans (mods_of_below hb2)).trans (Mods.setCell (M := fun k => k = b) _ (fun _ => rfl) _)
          have hz3 : w3.heap.size = w2.heap.size := by rw [← hw3]; simp
          have hm3 : Mach w3 b (.slice A2 n2 c2) false (d.fuse) := by rw [← hw3]; simpa using heap_setCell_same w2 b 0 _ _ (.slice A2 n2 c2) hm2
          have hr3 : w3.heap[w.heap.size]? = some (.cells #[.slice none 0 0, .bool false, .int .i64 0] 28 (0, 0)) := by rw [← hw3]; exact (Below.heap_setCell _ _ _ _ (by simp; omega)).trans hr2
          have ho3 : Own fileR w3 (w.heap.size + 1) 46 S (.slice A2 n2 c2) d.files := by
            rw [← hw3]
            refine (ho2.rebase (by omega)).same (fun k hk => Below.heap_setCell _ _ _ _ ?_)
            intro e
            have e : k = b := e
            rcases hk with h | h
            · exact hbS (e ▸ h)
            · have : w1.heap.size ≤ k := (hlt2 _ h).1; omega
          clear b0 g0 b1 b2 g1 g2
          have b0 : w2.cell? ⟨b, 0, none⟩ = some (.slice A n c) := cell_of_row w2 _ 0 _ _ _ hm2
          have g0 : w2.frozen? ⟨b, 0, none⟩ = false := frozen_of_row w2 b 0 _ _ hm2
          clear hw1
          go_wp2_with fail
          refine (HD.out HO.out (by first | rfl | trivial) HF0.out w3 _ _ hmo3 (by omega) (by rw [HO.out]; exact hm3) ho3).mono ?_
          rintro e w4 ⟨rfl, fv2, S2, hm4, hl4, hS4, hmo4⟩
          rw [HO.out] at hm4
          obtain ⟨A4, n4, c4, rfl, -⟩ := hl4.form
          have hr4 : w4.heap[w.heap.size]? = some (.cells #[.slice none 0 0, .bool false, .int .i64 0] 28 (0, 0)) := by
            refine (hmo4.block _ ?_ (by omega)).trans hr3
            rintro (h | h | h)
            · omega
            · have := hM _ h; omega
            · have := (hlt2 _ h).1; omega
          have hrb : b ≠ w.heap.size := by omega
          clear hw3 b0 g0 p0 p1 p2
          have m0 : w4.cell? ⟨b, 0, none⟩ = some (.slice A4 n4 c4) := cell_of_row w4 _ 0 _ _ _ hm4
          have m1 : w4.cell? ⟨b, 1, none⟩ = some (.bool false) := cell_of_row w4 _ 1 _ _ _ hm4
          have m2 : w4.cell? ⟨b, 2, none⟩ = some (.int .i64 (d.fuse)) := cell_of_row w4 _ 2 _ _ _ hm4
          have r0 : w4.cell? ⟨w.heap.size, 0, none⟩ = some (.slice none 0 0) := cell_of_row w4 _ 0 _ _ _ hr4
          have r1 : w4.cell? ⟨w.heap.size, 1, none⟩ = some (.bool false) := cell_of_row w4 _ 1 _ _ _ hr4
          have r2 : w4.cell? ⟨w.heap.size, 2, none⟩ = some (.int .i64 0) := cell_of_row w4 _ 2 _ _ _ hr4
          have s0 : w4.frozen? ⟨w.heap.size, 0, none⟩ = false := frozen_of_row w4 _ 0 _ _ hr4
          have s1 : w4.frozen? ⟨w.heap.size, 1, none⟩ = false := frozen_of_row w4 _ 1 _ _ hr4
          have s2 : w4.frozen? ⟨w.heap.size, 2, none⟩ = false := frozen_of_row w4 _ 2 _ _ hr4
          have hmo : Mods (fun k => k = b ∨ M k) w w4 := by
            refine ⟨hmo4.os.trans hmo3.os, hmo4.tape.trans hmo3.tape, hmo4.output.trans hmo3.output, Nat.le_trans hmo3.size hmo4.size, fun k hk hl => (hmo4.block k ?_ (by omega)).trans (hmo3.block k (fun h => hk (.inl h)) hl)⟩
            rintro (h | h | h)
            · exact hk (.inl h)
            · exact hk (.inr h)
            · have := (hlt2 _ h).1; omega
          go_wp2_with fail
          refine bodyPost_ret (v := .tuple #[.agg #[.slice A4 n4 c4, .bool false, .int .i64 (d.fuse)], .int .i64 0]) ?_ rfl ?_
          · simp [results, Try.results36, go_sem, r0, r1, r2]
          · have hoth : ∀ k, k ≠ w.heap.size → (((w4.setCell ⟨w.heap.size, 0, none⟩ (.slice A4 n4 c4)).setCell ⟨w.heap.size, 1, none⟩ (.bool false)).setCell ⟨w.heap.size, 2, none⟩ (.int .i64 (d.fuse))).heap[k]? = w4.heap[k]? := fun k hk =>
              (Below.heap_setCell _ ⟨w.heap.size, 2, none⟩ _ k hk).trans ((Below.heap_setCell _ ⟨w.heap.size, 1, none⟩ _ k hk).trans (Below.heap_setCell _ ⟨w.heap.size, 0, none⟩ _ k hk))
            rw [HA.out]
            refine ⟨_, S2, rfl, ⟨_, by rw [HO.out], hl4.keep (fun k hk => hoth k (fun e => by rcases (hS4 k hk).2 with h | h; (have := hS k h; omega); omega))⟩, fun k hk => ⟨by simpa using (hS4 k hk).1, by rcases (hS4 k hk).2 with h | h; exact .inl h; exact .inr (by omega)⟩, ?_⟩
            exact ⟨hmo.os, hmo.tape, hmo.output, by simpa using hmo.size, fun k hk hl => (hoth k (by omega)).trans (hmo.block k hk hl)⟩
    · have hwn : ((wrong : Int) != 0) = true := by simp; omega
      have HA : Hid (actD d wrong fs2 = (d, wrong)) := by unfold actD; rw [hoff, if_neg (by simp), if_pos (by simpa using hw0)]; exact rfl
      have HO := Lib.hid hoff
      clear hoff
      go_enter Try.func36, Try.ntmps36
      go_wp2_with fail
      refine bodyPost_ret (v := .tuple #[.agg #[.slice A n c, .bool false, .int .i64 d.fuse], .int .i64 wrong]) ?_ rfl ?_
      · simp [results, Try.results36, go_sem]
      · obtain ⟨h1, h2, h3⟩ := HSm.out _ (Mods.alloc _ _ _)
        rw [HA.out]
        exact ⟨_, S, rfl, ⟨_, by rw [HO.out], h1⟩, h2, h3⟩

end Go.Proofs.Ytaalhhgjliofaaa
