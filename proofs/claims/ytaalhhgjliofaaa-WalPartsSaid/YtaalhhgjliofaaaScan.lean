/- The contract of the program's Scan (silo/frame): the texts of all whole frames, and where they end. -/
import Derived.Test.YtaalhhgjliofaaaAll
import Derived.Test.YtaalhhgjliofaaaRow
set_option linter.unusedVariables false
set_option linter.unusedSimpArgs false
set_option maxRecDepth 100000
namespace Go.Proofs.Ytaalhhgjliofaaa
open Go.RowKit Go.Shelf
attribute [local go_sem] Oper.semAt_some

theorem infoString : (Try.prog.info? 9).map (fun i => (i.zero, i.size, i.bytes)) = some (some (.string ⟨#[]⟩), 1, 16) := by kernel_rfl

/-- Between two rounds of Scan. -/
def ScanI (w : World) (C : Nat → Prop) (pre : List (List UInt8 × Nat)) (W : World) : Prop :=
  ∃ v, (∀ k, C k ↔ (w.heap.size ≤ k ∧ k < w.heap.size + 2) ∨ v.ownBlock = some k) ∧ Below w.heap.size w W ∧
    Boxed W w.heap.size 22 v ∧ Boxed W (w.heap.size + 1) 3 (.int .i64 (lastEnd pre)) ∧ Own strR W (w.heap.size + 2) 9 (fun _ => False) v (pre.map (·.1))

theorem ScanI.stable (w : World) : Stable w.heap.size (ScanI w) := by
  rintro M s A B ⟨v, hC, hb, b0, b1, ho⟩ hs
  exact ⟨v, hC, below_same hb hs (Nat.le_refl _), boxed_same b0 hs (.inr ((hC _).2 (.inl (by omega)))), boxed_same b1 hs (.inr ((hC _).2 (.inl (by omega)))),
    ho.same (fun k hk => hs.block k (.inr ((hC k).2 (.inr (by simpa using hk)))) (ho.lt k (by simpa using hk)).2)⟩

theorem lastEnd_snoc (pre : List (List UInt8 × Nat)) (x : List UInt8 × Nat) : lastEnd (pre ++ [x]) = x.2 := by simp [lastEnd]

/-- Behind a round: the append has been done, the two results are stored. -/
theorem scan_step {w W w1 : World} {C : Nat → Prop} {pre : List (List UInt8 × Nat)} {x : List UInt8 × Nat} {v v' : Value} {o : Obj}
    (hC : ∀ k, C k ↔ (w.heap.size ≤ k ∧ k < w.heap.size + 2) ∨ v.ownBlock = some k) (hCW : ∀ k, C k → k < W.heap.size) (hb : Below w.heap.size w W)
    (b0 : Boxed W w.heap.size 22 v) (b1 : Boxed W (w.heap.size + 1) 3 (.int .i64 (lastEnd pre)))
    (ho : Own strR W (w.heap.size + 2) 9 (fun _ => False) v (pre.map (·.1)))
    (ho' : Own strR w1 (w.heap.size + 2) 9 (fun _ => False) v' (pre.map (·.1) ++ [x.1])) (hg : (W.alloc o).grownBy w1 v.ownBlock) (hat : v'.ownBlock = v.ownBlock ∨ v'.ownBlock = some (W.alloc o).heap.size) :
    ∃ C', New C C' W ((w1.setCell ⟨w.heap.size, 0, none⟩ v').setCell ⟨w.heap.size + 1, 0, none⟩ (.int .i64 x.2)) ∧
      Mods C W ((w1.setCell ⟨w.heap.size, 0, none⟩ v').setCell ⟨w.heap.size + 1, 0, none⟩ (.int .i64 x.2)) ∧
      ScanI w C' (pre ++ [x]) ((w1.setCell ⟨w.heap.size, 0, none⟩ v').setCell ⟨w.heap.size + 1, 0, none⟩ (.int .i64 x.2)) := by
  have hlt := ho'.lt
  have hlt0 := ho.lt
  have hsz : (W.alloc o).heap.size = W.heap.size + 1 := by simp
  have hz1 := hg.size
  have hm1 : Mods C W w1 := (Mods.alloc C W o).trans (mods_of_grownBy hg (fun k hk _ => (hC k).2 (.inr hk)))
  have hne0 : v.ownBlock ≠ some w.heap.size := fun h => by have := (hlt0 _ h).1; omega
  have hne1 : v.ownBlock ≠ some (w.heap.size + 1) := fun h => by have := (hlt0 _ h).1; omega
  have hm : Mods C W ((w1.setCell ⟨w.heap.size, 0, none⟩ v').setCell ⟨w.heap.size + 1, 0, none⟩ (.int .i64 x.2)) :=
    (hm1.trans (Mods.setCell _ (fun _ => (hC _).2 (.inl (by simp))) _)).trans (Mods.setCell _ (fun _ => (hC _).2 (.inl (by simp))) _)
  have b0' : Boxed w1 w.heap.size 22 v := (hg.block _ (by have := b0.lt; simp; omega) (fun h => hne0 h.symm)).trans ((Below.heap_alloc _ _ _ b0.lt).trans b0)
  have b1' : Boxed w1 (w.heap.size + 1) 3 (.int .i64 (lastEnd pre)) := (hg.block _ (by have := b1.lt; simp; omega) (fun h => hne1 h.symm)).trans ((Below.heap_alloc _ _ _ b1.lt).trans b1)
  refine ⟨fun k => (w.heap.size ≤ k ∧ k < w.heap.size + 2) ∨ v'.ownBlock = some k, ?_, hm, v', fun k => Iff.rfl, ?_, ?_, ?_, ?_⟩
  · rintro k (h | h)
    · exact ⟨by simp; have := b1'.lt; omega, fun _ => (hC k).2 (.inl h)⟩
    · refine ⟨by simp; exact (hlt k h).2, fun hk => (hC k).2 (.inr ?_)⟩
      rcases hat with e | e
      · rw [← e]; exact h
      · rw [e] at h; injection h with h; omega
  · refine below_mods hb hm (Nat.le_refl _) (fun k hk => ?_)
    rcases (hC k).1 hk with h | h
    · exact h.1
    · have := (hlt0 k h).1; omega
  · exact (boxed_set b0' rfl).other (by omega) _
  · exact boxed_set (b1'.other (by omega) _) (by rw [lastEnd_snoc])
  · rw [List.map_append]
    refine ho'.same (fun k hk => ?_)
    have hk : v'.ownBlock = some k := by simpa using hk
    have := (hlt k hk).1
    exact (Below.heap_setCell _ _ _ _ (by simp; omega)).trans (Below.heap_setCell _ _ _ _ (by simp; omega))

theorem allF_length (k a : Nat) (l : List UInt8) : (allF k a l).length ≤ l.length := by
  induction k generalizing a l with
  | zero => simp [allF]
  | succ k ih =>
    rw [allF]
    split
    · simp
    · obtain ⟨t, n, e, h⟩ : ∃ t n e, openL l = (t, n, e) := ⟨_, _, _, rfl⟩
      rw [h]
      simp only
      have := openL_ok l
      rw [h] at this
      split
      · simp
      · rename_i he
        have := this.2.1 (by simpa using he)
        have h2 := ih (a + n) (l.drop n)
        simp only [List.length_cons, List.length_drop] at h2 ⊢
        simp only at this
        omega

set_option maxHeartbeats 1000000 in
theorem scan_any (s : ByteArray) (w : World) (hs : s.size ≤ 1099511627776) :
    Calls Try.prog 17 #[.string s] w fun e w' => ∃ v, e = .returned (.tuple #[v, .int .i64 (scanN s.data.toList)]) ∧ Own strR w' w.heap.size 9 (fun _ => False) v (scanT s.data.toList) ∧ Below w.heap.size w w' := by
  obtain ⟨i0, hi0, hz0, hz1, hz2⟩ := info_parts infoString
  refine callsIn_wide.1 (callsIn_of_wp_marks (n := 0) Try.func17 rfl trivial ?_ rfl)
  simp only [Try.ntmps17, List.size_toArray, List.length_cons, List.length_nil, Nat.reduceAdd, Nat.reduceSub, Array.replicate_succ, Array.replicate_zero, List.push_toArray, List.append_toArray, List.nil_append, List.cons_append]
  gi_wp2_with fail
  obtain ⟨w0, hw0⟩ : ∃ w0, (w.alloc (.cells #[.slice none 0 0] 22)).alloc (.cells #[.int .i64 0] 3) = w0 := ⟨_, rfl⟩
  have hs0 : w0.heap.size = w.heap.size + 2 := by rw [← hw0]; simp
  have hI0 : ScanI w (fun k => w.heap.size ≤ k ∧ k < w.heap.size + 2) [] w0 := by
    refine ⟨.slice none 0 0, fun k => by simp [Value.ownBlock], ?_, ?_, ?_, Own.nil _ _ _ _ _⟩
    · rw [← hw0]; exact ((Below.refl _ w).alloc (Nat.le_refl _) _).alloc (by simp) _
    · rw [← hw0]; exact (boxed_new rfl _ _).alloc _
    · rw [← hw0]; exact boxed_new (by simp) _ _
  rw [hw0]
  refine ⟨trivial, rfl, (callsIn_wide.2 (all_any s _)).mono ?_⟩
  rintro e w' ⟨rfl, rfl⟩
  gi_wp2_with fail
  obtain ⟨w1, hw1⟩ : ∃ w1, w0.alloc (.cells #[.string s] 9) = w1 := ⟨_, rfl⟩
  have hs1 : w1.heap.size = w.heap.size + 3 := by rw [← hw1]; simp; omega
  have hI1 : ScanI w (fun k => w.heap.size ≤ k ∧ k < w.heap.size + 2) [] w1 := ScanI.stable w _ _ _ _ hI0 (by
    rw [← hw1]; exact ⟨rfl, rfl, rfl, by simp, fun k _ hl => Below.heap_alloc _ _ _ hl⟩)
  have hbx : Boxed w1 (w.heap.size + 2) 9 (.string s) := by rw [← hw1]; exact boxed_new (by omega) _ _
  rw [hw1]
  have hll := allF_length (s.data.toList.length + 1) 0 s.data.toList
  rw [show allF (s.data.toList.length + 1) 0 s.data.toList = allL s.data.toList from rfl, show s.data.toList.length = s.size by simp] at hll
  refine wpIn_over rfl (enters_of Try.func46 (by kernel_rfl) rfl) (frames_iter (w.heap.size + 2) s (by omega)) (fun _ => rfl) w.heap.size (by omega)
    (ScanI w) (fun _ _ _ _ => False) (ScanI.stable w) (fun _ _ _ _ _ h _ => h) (fun k => w.heap.size ≤ k ∧ k < w.heap.size + 2) (fun k hk => by omega) hI1
    (fun M W hM hb => ⟨(hb.block _ (by omega)).trans hbx, fun h => by have := hM _ (by omega) h; omega⟩) ?round ?done ?stop
  case round =>
    rintro l ⟨t, at_⟩ W0
    simp only [encF]
    gi_wp2
    refine ⟨trivial, ?_⟩
    rintro C pre r W hl1 hl2 hL ⟨v, hC, hb, b0, b1, ho⟩ hCW hCl hsW
    have c0 := b0.cell; have c1 := b1.cell
    have f0 := b0.frozen; have f1 := b1.frozen
    have hpl : pre.length + 1 ≤ s.size := by
      have := congrArg List.length hL
      simp at this; omega
    have HH := Lib.hid (fun w1 v' o => scan_step (x := (t, at_)) (w1 := w1) (v' := v') (o := o) hC hCW hb b0 b1 ho)
    have hle := ho.lt
    gi_wp2_with (gi_at_builtin; refine wpListIn_append (r := strR) rfl (.tmp 10) (.tmp 12) _ rfl (w.heap.size + 2) 9 i0 (.string ⟨#[]⟩) 16 Try.underlying22 hi0 hz0 hz1 hz2 rfl (by decide) (S := fun _ => False) (fun k hk => hk.elim) v (pre.map (·.1)) [t] rfl (ho.same (fun k hk => Below.heap_alloc _ _ _ (hle k (by simpa using hk)).2)) (some ⟨W.heap.size, 0, none⟩) 1 1 rfl rfl (Src.one_new 9 (cs := #[strV t]) rfl (fun k hk => hk.elim)) (by simp [maxLen]; omega) (by simp; omega) (by simp; omega) ?_)
    intro v2 w2 ho2 hg2 hat2
    obtain ⟨A2, n2, c2, rfl, -⟩ := ho2.read.form
    have hsz2 : (W.alloc (.cells #[.string ⟨t.toArray⟩] 9)).heap.size = W.heap.size + 1 := by simp
    have hE := Lib.hid (HH.out w2 _ _ ho2 hg2 (by rw [hsz2]; exact hat2))
    have hne0 : v.ownBlock ≠ some w.heap.size := fun h => by have := (hle _ h).1; omega
    have hne1 : v.ownBlock ≠ some (w.heap.size + 1) := fun h => by have := (hle _ h).1; omega
    have b0' : Boxed w2 w.heap.size 22 v := (hg2.block _ (by have := b0.lt; simp; omega) (fun h => hne0 h.symm)).trans ((Below.heap_alloc _ _ _ b0.lt).trans b0)
    have b1' : Boxed w2 (w.heap.size + 1) 3 (.int .i64 (lastEnd pre)) := (hg2.block _ (by have := b1.lt; simp; omega) (fun h => hne1 h.symm)).trans ((Below.heap_alloc _ _ _ b1.lt).trans b1)
    clear c0 c1 f0 f1 hle hne0 hne1 HH
    have c0 := b0'.cell; have c1 := b1'.cell
    have f0 := b0'.frozen; have f1 := b1'.frozen
    gi_wp2
    exact hE.out
  case done =>
    rintro C W ⟨v, hC, hb, b0, b1, ho⟩ hsz hK
    have c0 := b0.cell; have c1 := b1.cell
    have f0 := b0.frozen; have f1 := b1.frozen
    have hlt := ho.lt
    obtain ⟨A2, n2, c2, rfl, -⟩ := ho.read.form
    clear hw0 hw1 hI0 hI1
    have mixed : Try.prog.follows .mixedOrders = true := by kernel_rfl
    gi_wp2_with fail
    apply wpIn_once
    case h =>
      gi_region_with_o (fail)
      all_goals exact ⟨rfl, rfl⟩
    obtain ⟨S, hS⟩ : ∃ S, ((W.setCell ⟨w.heap.size, 0, none⟩ (.slice A2 n2 c2)).setCell ⟨w.heap.size + 1, 0, none⟩ (.int .i64 (lastEnd (allL s.data.toList)))) = S := ⟨_, rfl⟩
    have hm : Mods C W S := by
      rw [← hS]; exact (Mods.setCell W (fun _ => (hC _).2 (.inl (by simp))) _).trans (Mods.setCell _ (fun _ => (hC _).2 (.inl (by simp))) _)
    have d0 : Boxed S w.heap.size 22 (.slice A2 n2 c2) := by rw [← hS]; exact (b0.set _).other (by omega) _
    have d1 : Boxed S (w.heap.size + 1) 3 (.int .i64 (lastEnd (allL s.data.toList))) := by rw [← hS]; exact (b1.other (by omega) _).set _
    have ho2 : Own strR S (w.heap.size + 2) 9 (fun _ => False) (.slice A2 n2 c2) ((allL s.data.toList).map (·.1)) := by
      rw [← hS]
      refine ho.same (fun k hk => ?_)
      have hk : (Value.slice A2 n2 c2).ownBlock = some k := by simpa using hk
      have := (hlt k hk).1
      exact (Below.heap_setCell _ _ _ _ (by simp; omega)).trans (Below.heap_setCell _ _ _ _ (by simp; omega))
    rw [hS]
    have hD : w1.heap.size = w.heap.size + 3 := hs1
    have hKS : S.heap[w1.heap.size]? = some (.deferred (some [])) := by
      rw [← hS]; exact ((Below.heap_setCell _ _ _ _ (by simp; omega)).trans (Below.heap_setCell _ _ _ _ (by simp; omega))).trans hK
    have hmz := hm.size
    clear hS c0 c1 f0 f1
    gi_wp2
    have q0 := (boxed_put (o := .deferred none) (boxed_drew d0) (l := w.heap.size + 3) (by omega)).cell
    have q1 := (boxed_put (o := .deferred none) (boxed_drew d1) (l := w.heap.size + 3) (by omega)).cell
    refine over_end (D := w.heap.size + 3) (v := .tuple #[.slice A2 n2 c2, .int .i64 (lastEnd (allL s.data.toList))]) rfl (by rw [← hD]; exact hKS) ?_ ⟨_, rfl, ?_, ?_⟩
    · simp [results, Try.results17, go_sem, q0, q1]
    · have h3 : Own strR (S.drew.putObj (w.heap.size + 3) (.deferred none)) (w.heap.size + 2) 9 (fun _ => False) (.slice A2 n2 c2) ((allL s.data.toList).map (·.1)) := by
        refine ho2.same (fun k hk => ?_)
        have hk : (Value.slice A2 n2 c2).ownBlock = some k := by simpa using hk
        refine World.putObj_heap_other (fun e => ?_)
        subst e
        have := ho2.block hk
        rw [← hD, hKS] at this
        obtain ⟨cur, hcur⟩ := this
        cases hcur
      exact h3.rebase (by omega)
    · have hdz : w.heap.size ≤ S.drew.heap.size := by show w.heap.size ≤ S.heap.size; omega
      refine (below_mods hb (hm.trans (Mods.drew _ _)) (Nat.le_refl _) (fun k hk => ?_)).trans (same_putObj (fun k => k < w.heap.size) _ _ _ (by omega)).below'
      rcases (hC k).1 hk with h | h
      · exact h.1
      · have := (hlt k h).1; omega
  case stop =>
    rintro c C pre x r W hL h
    exact h.elim

end Go.Proofs.Ytaalhhgjliofaaa
