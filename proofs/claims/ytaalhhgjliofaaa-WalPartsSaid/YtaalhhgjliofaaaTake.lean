/- The contract of the program's Take: the number that bytes begin with. -/
import Derived.Test.YtaalhhgjliofaaaVar
set_option linter.unusedVariables false
set_option linter.unusedSimpArgs false
set_option maxRecDepth 100000
namespace Go.Proofs.Ytaalhhgjliofaaa
open Go.RowKit Go.Shelf
attribute [local go_sem] Oper.semAt_some

set_option maxHeartbeats 4000000 in
theorem take_any (s : ByteArray) (w : World) :
    Calls Try.prog 67 #[.string s] w fun e w' => e = .returned (.tuple #[.int .u64 (takeV s.data.toList).1, .int .i64 (takeV s.data.toList).2.1, .int .i64 (takeV s.data.toList).2.2]) ∧ Below w.heap.size w w' := by
  refine callsIn_wide.1 (callsIn_of_wp_marks (n := 0) Try.func67 rfl trivial ?_ rfl)
  simp only [Try.ntmps67, List.size_toArray, List.length_cons, List.length_nil, Nat.reduceAdd, Nat.reduceSub, Array.replicate_succ, Array.replicate_zero, List.push_toArray, List.append_toArray, List.nil_append, List.cons_append]
  gi_wp2_with fail
  obtain ⟨w0, hw0⟩ : ∃ w0, ((((w.alloc (.cells #[.int .u64 0] 72)).alloc (.cells #[.int .i64 0] 3)).alloc (.cells #[.int .i64 0] 29)).alloc (.cells #[.int .u64 0] 72)).alloc (.cells #[.int .i64 0] 3) = w0 := ⟨_, rfl⟩
  have hs0 : w0.heap.size = w.heap.size + 5 := by rw [← hw0]; simp
  have hI0 : TakeI w (fun k => w.heap.size ≤ k ∧ k < w.heap.size + 5) [] w0 := by
    refine ⟨fun k => Iff.rfl, ?_, 0, fun rest => rfl, by decide, ?_⟩
    · rw [← hw0]; exact (((((Below.refl _ w).alloc (Nat.le_refl _) _).alloc (by simp) _).alloc (by simp; omega) _).alloc (by simp; omega) _).alloc (by simp; omega) _
    · rw [← hw0]
      exact ⟨((((boxed_new rfl _ _).alloc _).alloc _).alloc _).alloc _, (((boxed_new (by simp) _ _).alloc _).alloc _).alloc _, ((boxed_new (by simp) _ _).alloc _).alloc _, (boxed_new (by simp) _ _).alloc _, boxed_new (by simp) _ _⟩
  rw [hw0]
  refine ⟨trivial, rfl, (callsIn_wide.2 (groups_any s _)).mono ?_⟩
  rintro e w' ⟨rfl, rfl⟩
  gi_wp2_with fail
  obtain ⟨w1, hw1⟩ : ∃ w1, w0.alloc (.cells #[.string s] 9) = w1 := ⟨_, rfl⟩
  have hs1 : w1.heap.size = w.heap.size + 6 := by rw [← hw1]; simp; omega
  have hI1 : TakeI w (fun k => w.heap.size ≤ k ∧ k < w.heap.size + 5) [] w1 := TakeI.stable w _ _ _ _ hI0 (by
    rw [← hw1]; exact ⟨rfl, rfl, rfl, by simp, fun k _ hl => Below.heap_alloc _ _ _ hl⟩)
  have hbx : Boxed w1 (w.heap.size + 5) 9 (.string s) := by rw [← hw1]; exact boxed_new (by omega) _ _
  rw [hw1]
  have hgl := grp_length 10 s.data.toList
  refine wpIn_over rfl (enters_of Try.func84 (by kernel_rfl) rfl) (groups_iter (w.heap.size + 5) s) (fun _ => rfl) w.heap.size (by omega)
    (TakeI w) (TakeX w) (TakeI.stable w) (TakeX.stable w) (fun k => w.heap.size ≤ k ∧ k < w.heap.size + 5) (fun k hk => by omega) hI1
    (fun M W hM hb => ⟨(hb.block _ (by omega)).trans hbx, fun h => by have := hM _ (by omega) h; omega⟩) ?round ?done ?stop
  case round =>
    rintro l ⟨g, last⟩ W0
    simp only [encG]
    gi_wp2
    refine ⟨trivial, ?_⟩
    rintro C pre r W hl1 hl2 hL ⟨hC, hb, n, hrun, hn, b0, b1, b2, b3, b4⟩ hCW hCl hsW
    have c0 := b0.cell; have c1 := b1.cell; have c2 := b2.cell; have c3 := b3.cell; have c4 := b4.cell
    have f0 := b0.frozen; have f1 := b1.frozen; have f2 := b2.frozen; have f3 := b3.frozen; have f4 := b4.frozen
    have hg : g < 128 := grp_lt 10 _ (g, last) (by rw [hL]; simp)
    have hpl : pre.length ≤ 9 := by rw [hL] at hgl; simp at hgl; omega
    have HR := Lib.hid hrun
    have HN := Lib.hid hn
    have hHC := Lib.hid hC
    have hHCW := Lib.hid hCW
    clear hL hw1 hw0 hrun hgl hs1 hs0 hn hI0 hI1 hbx hsW hCl hl1 hl2 hC hCW
    have hC := hHC
    have hCW := hHCW
    clear hHC hHCW
    generalize hi : pre.length = i at *
    have HI := Lib.hid hi
    clear hi
    have mixed : Try.prog.follows .mixedOrders = true := by kernel_rfl
    by_cases hrange : i = 9 ∧ (1 < g ∨ last = false)
    · obtain ⟨rfl, hg1⟩ := hrange
      have h9b : (((9 : Nat) : Int) == 9) = true := rfl
      have hend := take_ret (W' := ((W.setCell ⟨w.heap.size, 0, none⟩ (.int .u64 0)).setCell ⟨w.heap.size + 1, 0, none⟩ (.int .i64 0)).setCell ⟨w.heap.size + 1 + 1, 0, none⟩ (.int .i64 4)) hC hCW hb HR.out (stepG_range hg1)
        (((Mods.setCell W (fun _ => (hC _).2 (by simp)) _).trans (Mods.setCell _ (fun _ => (hC _).2 (by simp)) _)).trans (Mods.setCell _ (fun _ => (hC _).2 (by simp; omega)) _))
        (((boxed_set b0 rfl).other (by omega) _).other (by omega) _) ((boxed_set (b1.other (by omega) _) rfl).other (by omega) _) (boxed_set ((b2.other (by omega) _).other (by omega) _) rfl)
      have HE := Lib.hid hend
      clear hend
      by_cases hg2 : 1 < g
      · have hg3 : decide (1 < (g : Int)) = true := decide_eq_true (by omega)
        gi_wp2
        exact HE.out
      · have hl : last = false := by rcases hg1 with h | h; omega; exact h
        subst hl
        have hg3 : decide (1 < (g : Int)) = false := decide_eq_false (by omega)
        gi_wp2
        exact HE.out
    · have h9' : i = 9 → g ≤ 1 := fun h => by
        rcases Nat.lt_or_ge 1 g with h1 | h1
        · exact absurd ⟨h, .inl h1⟩ hrange
        · exact h1
      have h9l : i = 9 → last = true := fun h => by cases last; exact absurd ⟨h, .inr rfl⟩ hrange; rfl
      have H9' := Lib.hid h9'
      have H9l := Lib.hid h9l
      clear hrange h9' h9l
      have E1 := Lib.hid (show IntKind.i64.wrap (7 * (i : Int)) = 7 * (i : Int) from IntWalk.i64_in _ (by omega))
      have E3 := Lib.hid (show (7 * (i : Int)).toNat = 7 * i by omega)
      cases last with
      | false =>
        have h9 : i ≠ 9 := fun h => by cases H9l.out h
        have h9b : ((i : Int) == 9) = false := by simp; omega
        gi_wp2
        have e1 := E1.out
        have e2 : 0 ≤ 7 * (i : Int) := by omega
        have e3 := E3.out
        apply wpIn_once
        case h =>
          gi_region_with_o (fail)
          all_goals exact ⟨rfl, rfl⟩
        clear e1 e2 e3
        gi_wp2
        all_goals exact take_more hC hCW hb HR.out HN.out HI.out hpl h9 hg b0 b1 b2 b3 b4 rfl
      | true =>
        obtain ⟨hk1, hk2, hk3⟩ := take_bound hpl HN.out hg H9'.out
        have HU := Lib.hid (take_or hk1 HN.out hk2)
        clear hk1 hk2 hk3
        by_cases hform : g = 0 ∧ 0 < i
        · obtain ⟨rfl, hi0⟩ := hform
          have hd1 : decide (1 < (i : Int) + 1) = true := decide_eq_true (by omega)
          by_cases hi9 : i = 9
          all_goals first | (have h9b : ((i : Int) == 9) = false := by (simp; omega)) | (have h9b : ((i : Int) == 9) = true := by (simp; omega))
          all_goals clear hi9
          all_goals gi_wp2
          all_goals have e1 := E1.out
          all_goals have e2 : 0 ≤ 7 * (i : Int) := by omega
          all_goals have e3 := E3.out
          all_goals (apply wpIn_once; case h => (gi_region_with_o (fail); all_goals exact ⟨rfl, rfl⟩))
          all_goals clear e1 e2 e3
          all_goals gi_wp2
          all_goals exact take_ret (t := (0, 0, 2)) hC hCW hb HR.out (stepG_form hi0) ((take_fin hC b0 b1 b2).1.trans (Mods.drew _ _)) (boxed_drew (take_fin hC b0 b1 b2).2.1) (boxed_drew (take_fin hC b0 b1 b2).2.2.1) (boxed_drew (take_fin hC b0 b1 b2).2.2.2)
        · have hstep : stepG i n (g, true) = .inr (n + g * 2 ^ (7 * i), i + 1, 0) := stepG_done H9'.out (fun h => by
            rcases Nat.eq_zero_or_pos i with h0 | h0
            · exact h0
            · exact absurd ⟨h, h0⟩ hform)
          have HST := Lib.hid hstep
          have hways : (((i : Int) == 9) = false ∧ ((g : Int) == 0) = false) ∨ (((i : Int) == 9) = false ∧ ((g : Int) == 0) = true ∧ decide (1 < (i : Int) + 1) = false) ∨ (((i : Int) == 9) = true ∧ decide (1 < (g : Int)) = false ∧ ((g : Int) == 0) = false) := by
            by_cases h : i = 9
            · have := H9'.out h
              exact .inr (.inr ⟨by simp; omega, decide_eq_false (by omega), by simp; omega⟩)
            · by_cases hg0 : g = 0
              · exact .inr (.inl ⟨by simp; omega, by simp [hg0], decide_eq_false (by omega)⟩)
              · exact .inl ⟨by simp; omega, by simp; omega⟩
          clear hstep hform
          rcases hways with ⟨h9b, hg0⟩ | ⟨h9b, hg0, hd1⟩ | ⟨h9b, hg3, hg0⟩
          all_goals gi_wp2
          all_goals have e1 := E1.out
          all_goals have e2 : 0 ≤ 7 * (i : Int) := by omega
          all_goals have e3 := E3.out
          all_goals (apply wpIn_once; case h => (gi_region_with_o (fail); all_goals exact ⟨rfl, rfl⟩))
          all_goals clear e1 e2 e3
          all_goals rw [HU.out]
          all_goals gi_wp2
          all_goals (apply wpIn_once; case h => (gi_region_with_o (fail); all_goals exact ⟨rfl, rfl⟩))
          all_goals gi_wp2
          all_goals exact take_ret (t := (n + g * 2 ^ (7 * i), i + 1, 0)) hC hCW hb HR.out HST.out ((take_fin hC b0 b1 b2).1.trans ((Mods.drew _ _).trans (Mods.drew _ _))) (boxed_cast (boxed_drew (boxed_drew (take_fin hC b0 b1 b2).2.1)) (by push_cast; rfl)) (boxed_cast (boxed_drew (boxed_drew (take_fin hC b0 b1 b2).2.2.1)) (by push_cast; rfl)) (boxed_drew (boxed_drew (take_fin hC b0 b1 b2).2.2.2))
  case done =>
    rintro C W ⟨hC, hb, n, hrun, hn, b0, b1, b2, b3, b4⟩ hsz hK
    have c0 := b0.cell; have c1 := b1.cell; have c2 := b2.cell
    have f0 := b0.frozen; have f1 := b1.frozen; have f2 := b2.frozen
    have ht : takeV s.data.toList = (0, 0, 1) := by
      rw [takeV_runG, ← List.append_nil (grp 10 s.data.toList), hrun]; rfl
    have HT := Lib.hid ht
    clear ht hrun hw0 hw1 hI0 hI1
    gi_wp2
    obtain ⟨S, hS⟩ : ∃ S, ((W.setCell ⟨w.heap.size, 0, none⟩ (.int .u64 0)).setCell ⟨w.heap.size + 1, 0, none⟩ (.int .i64 0)).setCell ⟨w.heap.size + 1 + 1, 0, none⟩ (.int .i64 1) = S := ⟨_, rfl⟩
    rw [hS]
    have hm : Mods (fun k => w.heap.size ≤ k ∧ k < w1.heap.size) W S := by
      rw [← hS]; exact ((Mods.setCell W (fun _ => by simp; omega) _).trans (Mods.setCell _ (fun _ => by simp; omega) _)).trans (Mods.setCell _ (fun _ => by simp; omega) _)
    have d0 : Boxed (S.putObj w1.heap.size (.deferred none)) w.heap.size 72 (.int .u64 0) := boxed_put (by rw [← hS]; exact ((b0.set _).other (by omega) _).other (by omega) _) (by omega)
    have d1 : Boxed (S.putObj w1.heap.size (.deferred none)) (w.heap.size + 1) 3 (.int .i64 0) := boxed_put (by rw [← hS]; exact ((b1.other (by omega) _).set _).other (by omega) _) (by omega)
    have d2 : Boxed (S.putObj w1.heap.size (.deferred none)) (w.heap.size + 1 + 1) 29 (.int .i64 1) := boxed_put (by rw [← hS]; exact ((b2.other (by omega) _).other (by omega) _).set _) (by omega)
    clear hS
    have hmz := hm.size
    refine over_end (v := .tuple #[.int .u64 0, .int .i64 0, .int .i64 1]) rfl ((hm.block _ (by omega) hsz).trans hK) ?_ ⟨by rw [HT.out]; rfl, ?_⟩
    · have q0 := d0.cell; have q1 := d1.cell; have q2 := d2.cell
      simp [results, Try.results67, go_sem, q0, q1, q2]
    · exact (below_mods hb hm (Nat.le_refl _) (fun k hk => hk.1)).trans (same_putObj (fun k => k < w.heap.size) _ _ _ (by omega)).below'
  case stop =>
    rintro c C pre x r W hL ⟨rfl, hC, hb, t, hrun, b0, b1, b2⟩ hsz hK
    have ht : takeV s.data.toList = t := by
      rw [takeV_runG, hL, show pre ++ x :: r = pre ++ [x] ++ r by simp, hrun]
    have HT := Lib.hid ht
    clear ht hrun hw0 hw1 hI0 hI1 hL
    gi_wp2
    have d0 := boxed_put (o := .deferred none) b0 (l := w1.heap.size) (by omega)
    have d1 := boxed_put (o := .deferred none) b1 (l := w1.heap.size) (by omega)
    have d2 := boxed_put (o := .deferred none) b2 (l := w1.heap.size) (by omega)
    refine over_end (v := .tuple #[.int .u64 t.1, .int .i64 t.2.1, .int .i64 t.2.2]) rfl hK ?_ ⟨by rw [HT.out], ?_⟩
    · have q0 := d0.cell; have q1 := d1.cell; have q2 := d2.cell
      simp [results, Try.results67, go_sem, q0, q1, q2]
    · exact hb.trans (same_putObj (fun k => k < w.heap.size) _ _ _ (by omega)).below'

end Go.Proofs.Ytaalhhgjliofaaa
