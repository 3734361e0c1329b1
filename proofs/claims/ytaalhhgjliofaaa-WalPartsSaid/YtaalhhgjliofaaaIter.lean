/- A range over a function, as a rule of the walk: iterators over a list that is known ahead (Iter), and what a caller owes (wpIn_over). No program in sight. -/
import Derived.RangeFuncNested
import Derived.RangeFuncBound
import Derived.RangeFuncCalls
import Derived.RangeFuncLeaves
import Derived.Shelf.Abstract
import Derived.Shelf.RegionOpen
import Derived.WalkKit
import Derived.OwnWalkIn
import Derived.TacticsInMore
import Derived.LoopNIn
import Derived.LoopIn
set_option linter.unusedVariables false
set_option linter.unusedSimpArgs false
namespace Go.Proofs.Ytaalhhgjliofaaa
open Go.RowKit

/-- B is A, with more blocks; what M holds of lies as it lay. -/
structure Same (M : Nat → Prop) (A B : World) : Prop where
  os : B.os = A.os
  tape : B.tape = A.tape
  output : B.output = A.output
  size : A.heap.size ≤ B.heap.size
  block : ∀ k, M k → k < A.heap.size → B.heap[k]? = A.heap[k]?
/-- Nothing but what M holds of was written. -/
abbrev Mods (M : Nat → Prop) (A B : World) : Prop := Same (fun k => ¬ M k) A B

theorem Same.refl (M : Nat → Prop) (A : World) : Same M A A := ⟨rfl, rfl, rfl, Nat.le_refl _, fun _ _ _ => rfl⟩
theorem Same.trans {M : Nat → Prop} {A B C : World} (h : Same M A B) (k : Same M B C) : Same M A C :=
  ⟨k.os.trans h.os, k.tape.trans h.tape, k.output.trans h.output, Nat.le_trans h.size k.size, fun i hi hl => (k.block i hi (Nat.lt_of_lt_of_le hl h.size)).trans (h.block i hi hl)⟩
theorem Same.imp {M M' : Nat → Prop} {A B : World} (h : Same M A B) (hm : ∀ k, k < A.heap.size → M' k → M k) : Same M' A B :=
  ⟨h.os, h.tape, h.output, h.size, fun k hk hl => h.block k (hm k hl hk) hl⟩
theorem Same.below {A B : World} {n : Nat} (h : Same (fun k => k < n) A B) (hn : n ≤ A.heap.size) : Below n A B :=
  ⟨h.os, h.tape, h.output, h.size, fun k hk => h.block k hk (by omega)⟩
theorem same_of_below {A B : World} {n : Nat} (h : Below n A B) : Same (fun k => k < n) A B := ⟨h.os, h.tape, h.output, h.size, fun k hk _ => h.block k hk⟩
theorem mods_of_below {M : Nat → Prop} {A B : World} (h : Below A.heap.size A B) : Mods M A B := ⟨h.os, h.tape, h.output, h.size, fun k _ hl => h.block k hl⟩
theorem mods_of_grownBy {M : Nat → Prop} {A B : World} {row : Option Nat} (h : A.grownBy B row) (hr : ∀ k, row = some k → k < A.heap.size → M k) : Mods M A B :=
  ⟨h.os, h.tape, h.output, h.size, fun k hk hl => h.block k hl (fun e => hk (hr k e.symm hl))⟩
theorem Mods.alloc (M : Nat → Prop) (A : World) (o : Obj) : Mods M A (A.alloc o) := mods_of_below ((Below.refl _ A).alloc (Nat.le_refl _) o)
theorem Mods.drew (M : Nat → Prop) (A : World) : Mods M A A.drew := mods_of_below (Below.drew (Below.refl _ A))
theorem Mods.setCell {M : Nat → Prop} (A : World) {p : Addr} (hp : p.block < A.heap.size → M p.block) (u : Value) : Mods M A (A.setCell p u) :=
  ⟨rfl, rfl, rfl, by simp [World.setCell], fun k hk hl => Below.heap_setCell _ _ _ _ (fun e => hk (e ▸ hp (e ▸ hl)))⟩
theorem same_putObj (M : Nat → Prop) (A : World) (l : Nat) (o : Obj) (hl : ¬ M l) : Same M A (A.putObj l o) :=
  ⟨rfl, rfl, rfl, by simp, fun k hk _ => World.putObj_heap_other (fun e => hl (e ▸ hk))⟩

theorem boxed_same {M : Nat → Prop} {A B : World} {b : Nat} {t : TypeId} {v : Value} (h : Boxed A b t v) (hs : Same M A B) (hb : M b) : Boxed B b t v := (hs.block b hb h.lt).trans h
theorem boxed_new {W : World} {n : Nat} (h : n = W.heap.size) (t : TypeId) (v : Value) : Boxed (W.alloc (.cells #[v] t)) n t v := by subst h; exact Boxed.new W t v
theorem boxed_put {W : World} {b l : Nat} {t : TypeId} {v : Value} {o : Obj} (h : Boxed W b t v) (hl : b ≠ l) : Boxed (W.putObj l o) b t v := (World.putObj_heap_other hl).trans h
theorem Same.below' {A B : World} {n : Nat} (h : Same (fun k => k < n) A B) (hn : n ≤ A.heap.size := by omega) : Below n A B := h.below hn
theorem boxed_cast {W : World} {b : Nat} {t : TypeId} {v v' : Value} (h : Boxed W b t v) (e : v = v') : Boxed W b t v' := e ▸ h
theorem boxed_drew {W : World} {b : Nat} {t : TypeId} {v : Value} (h : Boxed W b t v) : Boxed W.drew b t v := h
theorem boxed_set {W : World} {b : Nat} {t : TypeId} {v u v' : Value} (h : Boxed W b t v) (e : u = v') : Boxed (W.setCell ⟨b, 0, none⟩ u) b t v' := by subst e; exact h.set u
theorem below_same {n : Nat} {M : Nat → Prop} {w A B : World} (h : Below n w A) (hs : Same (fun k => k < n ∨ M k) A B) (hn : n ≤ w.heap.size) : Below n w B :=
  h.trans ⟨hs.os, hs.tape, hs.output, hs.size, fun k hk => hs.block k (.inl hk) (by have := h.size; omega)⟩
theorem below_mods {n : Nat} {M : Nat → Prop} {w A B : World} (h : Below n w A) (hs : Mods M A B) (hn : n ≤ w.heap.size) (hM : ∀ k, M k → n ≤ k) : Below n w B :=
  h.trans ⟨hs.os, hs.tape, hs.output, hs.size, fun k hk => hs.block k (fun h => by have := hM k h; omega) (by have := h.size; omega)⟩
/-- What an iterator's own steps leave alone. -/
def Stable {β : Type} (n0 : Nat) (J : (Nat → Prop) → β → World → Prop) : Prop := ∀ M s A B, J M s A → Same (fun k => k < n0 ∨ M k) A B → J M s B

/-- A piece of code whose ways all end alike: what stands behind it is walked once. -/
theorem wpIn_once {F : Fence} {n : Nat} {P : Program} {c : Code} {K : Act → World → Prop} {Q : Exit → Act → World → Prop} {a : Act} {w : World} {A : Act} {W : World}
    (h : c.wpIn F n P (Exit.then (fun a' w' => a' = A ∧ w' = W) Q) a w) (hk : K A W) : c.wpIn F n P (Exit.then K Q) a w :=
  wpIn_mono h (fun e a' w' hq => by
    cases e with
    | normal => obtain ⟨rfl, rfl⟩ := hq; exact hk
    | exit id => exact hq
    | goto t => exact hq
    | ret => exact hq
    | panic ch => exact hq
    | outgrown => exact hq)
theorem wp_once {P : Program} {c : Code} {K : Act → World → Prop} {Q : Exit → Act → World → Prop} {a : Act} {w : World} {A : Act} {W : World}
    (h : c.wp P (Exit.then (fun a' w' => a' = A ∧ w' = W) Q) a w) (hk : K A W) : c.wp P (Exit.then K Q) a w :=
  wp_mono h (fun e a' w' hq => by
    cases e with
    | normal => obtain ⟨rfl, rfl⟩ := hq; exact hk
    | exit id => exact hq
    | goto t => exact hq
    | ret => exact hq
    | panic ch => exact hq
    | outgrown => exact hq)
/-- The blocks that a round owns behind it: those that it owned, and new ones. -/
def New (C C' : Nat → Prop) (W W' : World) : Prop := ∀ k, C' k → k < W'.heap.size ∧ (k < W.heap.size → C k)
theorem New.refl {C : Nat → Prop} {W W' : World} (h : ∀ k, C k → k < W.heap.size) (hs : W.heap.size ≤ W'.heap.size) : New C C W W' := fun k hk => ⟨Nat.lt_of_lt_of_le (h k hk) hs, fun _ => hk⟩

/-- AN ITERATOR OVER THE LIST L: the function g, with the captured values lb, calls yield at each element of L, in order, till one says no. X: what it asks of its captured values. -/
def Iter {α : Type} (P : Program) (g : Nat) (lb : Array Value) (encs : α → Array Value) (L : List α) (X : Nat → (Nat → Prop) → World → Prop) : Prop :=
  ∀ (n0 l : Nat) (J Jx : (Nat → Prop) → List α → World → Prop) (M : Nat → Prop) (W : World),
    X n0 M W → Stable n0 J → Stable n0 Jx →
    (∀ M pre x r W1, L = pre ++ x :: r → J M pre W1 → (∀ k, M k → k < W1.heap.size) →
      YieldAt Fence.wide 0 P l (encs x) W1 fun e W' => ∃ M', New M M' W1 W' ∧ Mods M W1 W' ∧
        ((e = .returned (.bool true) ∧ J M' (pre ++ [x]) W') ∨ (e = .returned (.bool false) ∧ Jx M' (pre ++ [x]) W'))) →
    J M [] W → (∀ k, M k → k < W.heap.size) →
    CallsIn Fence.wide 0 P g (#[.func (.yield l) #[] #[]] ++ lb) W fun e W' => (∃ v, e = .returned v) ∧
      ∃ M', (J M' L W' ∨ ∃ pre x r, L = pre ++ x :: r ∧ Jx M' (pre ++ [x]) W')

/-- How a round's body may be left. -/
def overPost {α : Type} (I : (Nat → Prop) → List α → World → Prop) (Ix : Code → (Nat → Prop) → List α → World → Prop) (C : Nat → Prop) (xs : List α) (W : World) : Exit → Act → World → Prop
  | .normal, _, W' => ∃ C', New C C' W W' ∧ Mods C W W' ∧ I C' xs W'
  | .ret, _, W' => ∃ C', New C C' W W' ∧ Mods C W W' ∧ Ix .ret C' xs W'
  | .exit id, _, W' => ∃ C', New C C' W W' ∧ Mods C W W' ∧ Ix (.exit id) C' xs W'
  | .goto t, _, W' => ∃ C', New C C' W W' ∧ Mods C W W' ∧ Ix (.goto t) C' xs W'
  | .panic _, _, _ => False
  | .outgrown, _, _ => False

theorem wpIn_over {α : Type} {P : Program} {g : Operand} {ps : Array Tmp} {assign body : Code} {Q : Exit → Act → World → Prop} {a : Act} {w : World}
    {gf : Nat} {lb : Array Value} (hg : a.eval g = .func (.func gf) #[] lb) (eg : ∀ args w, (callFunc gf args).run P w = .ok (.enter gf args) w)
    {encs : α → Array Value} {L : List α} {X : Nat → (Nat → Prop) → World → Prop} (hit : Iter P gf lb encs L X) (hps : ∀ x, (encs x).size = ps.size)
    (n0 : Nat) (hn0 : n0 ≤ w.heap.size)
    (I : (Nat → Prop) → List α → World → Prop) (Ix : Code → (Nat → Prop) → List α → World → Prop) (hI : Stable n0 I) (hIx : ∀ c, Stable n0 (Ix c))
    (C : Nat → Prop) (hC : ∀ k, C k → k < w.heap.size) (h0 : I C [] w)
    (hX : ∀ (M : Nat → Prop) (W : World), (∀ k, k < w.heap.size → M k → C k) → Below w.heap.size w W → X n0 M W)
    (hround : ∀ (l : Nat) (x : α) (W0 : World), assign.wpIn (Fence.wide.inRound l) 0 P (Exit.then (fun a₁ W1 => W0 = W1 ∧
        ∀ (C : Nat → Prop) (pre r : List α) (W : World), w.heap.size < l → l < W.heap.size → L = pre ++ x :: r → I C pre W → (∀ k, C k → k < W.heap.size) → ¬ C l → w.heap.size ≤ W.heap.size →
          body.wpIn (Fence.wide.inRound l) 0 P (overPost I Ix C (pre ++ [x]) W) a₁ W) (fun _ _ _ => False))
      { tmps := (ps.zip (encs x)).foldl (fun t (p, v) => t.setIfInBounds p v) a.tmps, defers := [] } W0)
    (hdone : ∀ (C : Nat → Prop) (W : World), I C L W → w.heap.size < W.heap.size → W.heap[w.heap.size]? = some (.deferred (some [])) → Q .normal { a with defers := { target := .collected w.heap.size, args := #[] } :: a.defers } W)
    (hstop : ∀ (c : Code) (C : Nat → Prop) (pre : List α) (x : α) (r : List α) (W : World), L = pre ++ x :: r → Ix c C (pre ++ [x]) W → w.heap.size < W.heap.size → W.heap[w.heap.size]? = some (.deferred (some [])) →
      c.wpIn Fence.wide 0 P Q { a with defers := { target := .collected w.heap.size, args := #[] } :: a.defers } W) :
    (Code.rangeFunc g ps assign body).wpIn Fence.wide 0 P Q a w := by
  refine wpIn_rangeFunc ?_
  intro fn hfn
  obtain ⟨rec, hrec⟩ : ∃ rec : LoopState → Option Code → Loop, rec = fun st pe => { state := st, pending := pe, fn, tmps := a.tmps, params := ps, assign, body, defers := w.heap.size } := ⟨_, rfl⟩
  obtain ⟨W1, hW1⟩ : ∃ W1, (w.alloc (.deferred (some []))).alloc (.loop (rec .ready none)) = W1 := ⟨_, rfl⟩
  have hL1 : W1.heap[w.heap.size + 1]? = some (.loop (rec .ready none)) := by
    rw [← hW1]; have := World.alloc_heap_new (w.alloc (.deferred (some []))) (.loop (rec .ready none)); rwa [World.size_alloc] at this
  have hK1 : W1.heap[w.heap.size]? = some (.deferred (some [])) := by
    rw [← hW1]; exact (Below.heap_alloc _ _ _ (by simp)).trans (World.alloc_heap_new w _)
  have hb1 : Below w.heap.size w W1 := by
    rw [← hW1]; exact ((Below.refl _ w).alloc (Nat.le_refl _) _).alloc (by simp) _
  have hs1 : W1.heap.size = w.heap.size + 2 := by rw [← hW1]; simp
  have hI1 : I C [] W1 := hI _ _ _ _ h0 ⟨hb1.os, hb1.tape, hb1.output, hb1.size, fun k _ hl => hb1.block k hl⟩
  obtain ⟨l, hl⟩ : ∃ l, l = w.heap.size + 1 := ⟨_, rfl⟩
  obtain ⟨D, hD⟩ : ∃ D, D = w.heap.size := ⟨_, rfl⟩
  refine ⟨w.heap.size + 1, [{ target := .collected w.heap.size, args := #[] }], W1, { target := .fn (.func gf) lb, args := #[.func (.yield (w.heap.size + 1)) #[] #[]] }, W1, gf,
    #[.func (.yield (w.heap.size + 1)) #[] #[]] ++ lb, W1, ?_, ?_, ?_, ?_, fun h => by simp [Fence.wide] at h, ?_⟩
  · rw [← hW1, hrec]; exact run_enterLoop_outer _ _ _ _ _
  · simp only [resolve, hg]
    simp [go_sem]
  · intro f' hf'; trivial
  · simp [invoke, go_sem, eg]
  · -- the iterator's contract, at the caller's invariant with the two blocks of book-keeping beside it
    refine (hit n0 (w.heap.size + 1)
      (fun M pre W => ∃ C, (∀ k, M k ↔ C k ∨ k = D ∨ k = l) ∧ ¬ C D ∧ ¬ C l ∧ I C pre W ∧ W.heap[l]? = some (.loop (rec .ready none)) ∧ W.heap[D]? = some (.deferred (some [])))
      (fun M pre W => ∃ C c, (∀ k, M k ↔ C k ∨ k = D ∨ k = l) ∧ ¬ C l ∧ Ix c C pre W ∧ W.heap[l]? = some (.loop (rec .done (some c))) ∧ W.heap[D]? = some (.deferred (some [])))
      (fun k => C k ∨ k = D ∨ k = l) W1 (hX _ _ (fun k hk hm => by rcases hm with h | h | h; exact h; omega; omega) hb1) ?_ ?_ ?_ ?_ ?_).mono ?_
    · rintro M s A B ⟨C, hM, hCD, hCl, hi, h1, h2⟩ hs
      have e1 : B.heap[l]? = A.heap[l]? := hs.block l (.inr ((hM l).2 (.inr (.inr rfl)))) (Array.getElem?_eq_some_iff.1 h1).1
      have e2 : B.heap[D]? = A.heap[D]? := hs.block D (.inr ((hM D).2 (.inr (.inl rfl)))) (Array.getElem?_eq_some_iff.1 h2).1
      exact ⟨C, hM, hCD, hCl, hI _ _ _ _ hi (hs.imp fun k _ hk => hk.imp id (fun h => (hM k).2 (.inl h))), e1.trans h1, e2.trans h2⟩
    · rintro M s A B ⟨C, c, hM, hCl, hi, h1, h2⟩ hs
      have e1 : B.heap[l]? = A.heap[l]? := hs.block l (.inr ((hM l).2 (.inr (.inr rfl)))) (Array.getElem?_eq_some_iff.1 h1).1
      have e2 : B.heap[D]? = A.heap[D]? := hs.block D (.inr ((hM D).2 (.inr (.inl rfl)))) (Array.getElem?_eq_some_iff.1 h2).1
      exact ⟨C, c, hM, hCl, hIx c _ _ _ _ hi (hs.imp fun k _ hk => hk.imp id (fun h => (hM k).2 (.inl h))), e1.trans h1, e2.trans h2⟩
    · -- one round
      rintro M pre x r W hLx ⟨C, hM, hCD, hCl, hi, h1, h2⟩ hMlt
      have hlt : l < W.heap.size := (Array.getElem?_eq_some_iff.1 h1).1
      have hltD : D < W.heap.size := (Array.getElem?_eq_some_iff.1 h2).1
      have hCk : ∀ k, C k → k < W.heap.size := fun k hk => hMlt k ((hM k).2 (.inl hk))
      subst hl
      have hy := run_yield (P := P) (args := encs x) h1 (by rw [hrec]; exact hps x)
      rw [hrec] at hy
      refine ⟨fn, _, assign, body, hy, roundIn_of_wpIn trivial (wpIn_mono (hround _ x W) ?_)⟩
      rintro e a' Wa hp
      cases e with
      | exit id => exact hp.elim
      | goto t => exact hp.elim
      | ret => exact hp.elim
      | panic ch => exact hp.elim
      | outgrown => exact hp.elim
      | normal =>
      obtain ⟨rfl, hbody⟩ := hp
      refine ⟨_, run_beginRound h1 (by rw [hrec]), ?_⟩
      obtain ⟨W2, hW2⟩ : ∃ W2, W.putObj (w.heap.size + 1) (.loop { rec .ready none with state := .busy }) = W2 := ⟨_, rfl⟩
      rw [hW2]
      have hl2 : W2.heap[w.heap.size + 1]? = some (.loop { rec .ready none with state := .busy }) := by rw [← hW2]; exact World.putObj_heap_same hlt
      have hk2 : W2.heap[D]? = some (.deferred (some [])) := by rw [← hW2]; exact (World.putObj_heap_other (by omega)).trans h2
      have hz2 : W2.heap.size = W.heap.size := by rw [← hW2]; simp
      have hs2 : ∀ M' : Nat → Prop, ¬ M' (w.heap.size + 1) → Same M' W W2 := fun M' hm => by rw [← hW2]; exact same_putObj _ _ _ _ hm
      have hi2 : I C pre W2 := hI _ _ _ _ hi (hs2 _ (by
        rintro (h | h)
        · omega
        · exact hCl h))
      refine wpIn_mono (hbody C pre r W2 (by omega) (by omega) hLx hi2 (by rw [hz2]; exact hCk) hCl (by omega)) ?_
      have fin : ∀ (jump : Option Code) (C' : Nat → Prop) (W3 : World), New C C' W2 W3 → Mods C W2 W3 → ∃ W4, (Instr.endRound (w.heap.size + 1) jump).run P W3 = .ok (.bool jump.isNone) W4 ∧
          W4.heap[w.heap.size + 1]? = some (.loop (rec (if jump.isNone then .ready else .done) jump)) ∧ W4.heap[D]? = some (.deferred (some [])) ∧
          New M (fun k => C' k ∨ k = D ∨ k = w.heap.size + 1) W W4 ∧ Mods M W W4 ∧ Same (fun k => k < n0 ∨ C' k) W3 W4 ∧ ¬ C' D ∧ ¬ C' (w.heap.size + 1) := fun jump C' W3 hn hm => by
        have hl3 : W3.heap[w.heap.size + 1]? = some (.loop { rec .ready none with state := .busy }) := (hm.block _ hCl (by omega)).trans hl2
        have hk3 : W3.heap[D]? = some (.deferred (some [])) := (hm.block _ hCD (by omega)).trans hk2
        have hl3lt := (Array.getElem?_eq_some_iff.1 hl3).1
        have hk3lt := (Array.getElem?_eq_some_iff.1 hk3).1
        have hnl : ¬ C' (w.heap.size + 1) := fun h => hCl ((hn _ h).2 (by omega))
        have hnD : ¬ C' D := fun h => hCD ((hn _ h).2 (by omega))
        have := run_endRound (P := P) jump hl3
        refine ⟨_, this, ?_, (World.putObj_heap_other (by omega)).trans hk3, ?_, ?_, same_putObj _ _ _ _ ?_, hnD, hnl⟩
        · rw [World.putObj_heap_same hl3lt, hrec]
        · intro k hk
          refine ⟨?_, fun hkW => ?_⟩
          · simp only [World.putObj_size]
            rcases hk with h | h | h
            · exact (hn k h).1
            · omega
            · omega
          · rcases hk with h | h | h
            · exact (hM k).2 (.inl ((hn k h).2 (by omega)))
            · exact (hM k).2 (.inr (.inl h))
            · exact (hM k).2 (.inr (.inr h))
        · refine (hs2 (fun k => ¬ M k) (fun h => h ((hM _).2 (.inr (.inr rfl))))).trans (Same.trans (hm.imp ?_) (same_putObj _ _ _ _ ?_))
          · intro k _ hk hC
            exact hk ((hM k).2 (.inl hC))
          · exact fun h => h ((hM _).2 (.inr (.inr rfl)))
        · rintro (h | h)
          · omega
          · exact hnl h
      rintro e a3 W3 hp
      cases e with
      | normal =>
        obtain ⟨C', hn, hm, hi3⟩ := hp
        obtain ⟨W4, hr, hl4, hk4, hN, hMo, hS, hnD, hnl⟩ := fin none C' W3 hn hm
        exact ⟨_, _, hr, _, hN, hMo, .inl ⟨rfl, C', fun k => Iff.rfl, hnD, hnl, hI _ _ _ _ hi3 hS, hl4, hk4⟩⟩
      | ret =>
        obtain ⟨C', hn, hm, hi3⟩ := hp
        obtain ⟨W4, hr, hl4, hk4, hN, hMo, hS, hnD, hnl⟩ := fin (some .ret) C' W3 hn hm
        exact ⟨_, _, hr, _, hN, hMo, .inr ⟨rfl, C', _, fun k => Iff.rfl, hnl, hIx _ _ _ _ _ hi3 hS, hl4, hk4⟩⟩
      | exit id =>
        obtain ⟨C', hn, hm, hi3⟩ := hp
        obtain ⟨W4, hr, hl4, hk4, hN, hMo, hS, hnD, hnl⟩ := fin (some (.exit id)) C' W3 hn hm
        exact ⟨_, _, hr, _, hN, hMo, .inr ⟨rfl, C', _, fun k => Iff.rfl, hnl, hIx _ _ _ _ _ hi3 hS, hl4, hk4⟩⟩
      | goto t =>
        obtain ⟨C', hn, hm, hi3⟩ := hp
        obtain ⟨W4, hr, hl4, hk4, hN, hMo, hS, hnD, hnl⟩ := fin (some (.goto t)) C' W3 hn hm
        exact ⟨_, _, hr, _, hN, hMo, .inr ⟨rfl, C', _, fun k => Iff.rfl, hnl, hIx _ _ _ _ _ hi3 hS, hl4, hk4⟩⟩
      | panic ch => exact hp.elim
      | outgrown => exact hp.elim
    · exact ⟨C, fun k => Iff.rfl, fun h => by have := hC _ h; omega, fun h => by have := hC _ h; omega, hI1, by rw [hl]; exact hL1, by rw [hD]; exact hK1⟩
    · rintro k (h | h | h)
      · have := hC k h; omega
      · omega
      · omega
    · rintro e W' ⟨⟨v, rfl⟩, M', hj | ⟨pre, x, r, hLx, hj⟩⟩
      · obtain ⟨C', hM, hCD, hCl, hi, h1, h2⟩ := hj
        subst hl
        subst hD
        have hend := run_endLoop (P := P) h1 (by rw [hrec]; simp)
        have hlt := (Array.getElem?_eq_some_iff.1 h1).1
        refine ⟨_, _, hend, ?_⟩
        rw [hrec]
        refine hdone C' _ (hI _ _ _ _ hi (same_putObj _ _ _ _ (by
          rintro (h | h)
          · omega
          · exact hCl h))) (by simp; omega) ((World.putObj_heap_other (by omega)).trans h2)
      · obtain ⟨C', c, hM, hCl, hi, h1, h2⟩ := hj
        subst hl
        subst hD
        have hend := run_endLoop (P := P) h1 (by rw [hrec]; simp)
        have hlt := (Array.getElem?_eq_some_iff.1 h1).1
        refine ⟨_, _, hend, ?_⟩
        rw [hrec]
        exact hstop c C' pre x r _ hLx (hIx c _ _ _ _ hi (same_putObj _ _ _ _ (by
          rintro (h | h)
          · omega
          · exact hCl h))) (by simp; omega) ((World.putObj_heap_other (by omega)).trans h2)

/-- The end of a function that ranged over a function once. -/
theorem over_end {P : Program} {fn : Func} {R : Ending → World → Prop} {a : Act} {w : World} {D : Nat} {v : Value}
    (hd : a.defers = [{ target := .collected D, args := #[] }]) (hK : w.heap[D]? = some (.deferred (some [])))
    (hres : (results fn a.tmps).run P (w.putObj D (.deferred none)) = .ok v (w.putObj D (.deferred none))) (hR : R (.returned v) (w.putObj D (.deferred none))) :
    bodyPostM Fence.wide 0 P fn R .ret a w := by
  show LeavesInM Fence.wide 0 P fn a.tmps R a.defers .returning w
  rw [hd]
  refine ⟨by simp, .inl ⟨_, _, rfl, run_takeDeferred hK, ?_⟩⟩
  exact ⟨_, hres, hR⟩

end Go.Proofs.Ytaalhhgjliofaaa
