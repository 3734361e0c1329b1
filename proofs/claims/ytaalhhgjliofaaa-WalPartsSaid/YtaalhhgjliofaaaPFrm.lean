/- Plain facts about frames: a text with its length ahead and its checksum behind. -/
import Derived.Test.YtaalhhgjliofaaaPCrc
import Derived.Test.YtaalhhgjliofaaaPVar
set_option linter.unusedVariables false
set_option linter.unusedSimpArgs false
set_option maxRecDepth 100000
namespace Go.Proofs.Ytaalhhgjliofaaa

def wrapL (l : List UInt8) : List UInt8 := if putText l = [] then [] else putText l ++ crcBytes (crcSum (putText l))
def openL (l : List UInt8) : List UInt8 × Nat × Nat :=
  match takeText l with
  | (t, n, e) => if e ≠ 0 then ([], 0, e) else if l.length < n + 4 then ([], 0, 1) else if crcBytes (crcSum (l.take n)) ≠ (l.drop n).take 4 then ([], 0, 3) else (t, n + 4, 0)
/-- The texts of frames, one behind the other, and where each frame ends. -/
def allF : Nat → Nat → List UInt8 → List (List UInt8 × Nat)
  | 0, _, _ => []
  | k + 1, at_, l => if l = [] then [] else
    match openL l with
    | (t, n, e) => if e ≠ 0 then [] else (t, at_ + n) :: allF k (at_ + n) (l.drop n)
def allL (l : List UInt8) : List (List UInt8 × Nat) := allF (l.length + 1) 0 l
def scanT (l : List UInt8) : List (List UInt8) := (allL l).map (·.1)
def lastEnd (xs : List (List UInt8 × Nat)) : Nat := match xs.getLast? with | some x => x.2 | none => 0
def scanN (l : List UInt8) : Nat := lastEnd (allL l)

theorem takeText_ok (l : List UInt8) : (takeText l).2.2 < 5 ∧ ((takeText l).2.2 = 0 → 0 < (takeText l).2.1 ∧ (takeText l).2.1 ≤ l.length ∧ (takeText l).1.length ≤ 65536) ∧ ((takeText l).2.2 ≠ 0 → (takeText l).2.1 = 0) := by
  obtain ⟨h1, h2, h3, h4⟩ := takeV_ok l
  unfold takeText
  obtain ⟨n, k, e, ht⟩ : ∃ n k e, takeV l = (n, k, e) := ⟨_, _, _, rfl⟩
  rw [ht] at h1 h2 h3 h4 ⊢
  simp only at h1 h2 h3 h4 ⊢
  split
  · exact ⟨h2, fun h => absurd h ‹_›, fun _ => rfl⟩
  · split
    · exact ⟨by decide, fun h => by simp at h, fun _ => rfl⟩
    · split
      · exact ⟨by decide, fun h => by simp at h, fun _ => rfl⟩
      · have := h3 (by omega)
        refine ⟨by simp, fun _ => ⟨by simp only; omega, by simp only; omega, ?_⟩, fun h => by simp at h⟩
        simp only [List.length_take]; omega
theorem openL_ok (l : List UInt8) : (openL l).2.2 < 5 ∧ ((openL l).2.2 = 0 → 4 < (openL l).2.1 ∧ (openL l).2.1 ≤ l.length) ∧ ((openL l).2.2 ≠ 0 → (openL l).2.1 = 0 ∧ (openL l).1 = []) := by
  obtain ⟨h1, h2, h3⟩ := takeText_ok l
  unfold openL
  obtain ⟨t, n, e, ht⟩ : ∃ t n e, takeText l = (t, n, e) := ⟨_, _, _, rfl⟩
  rw [ht] at h1 h2 h3 ⊢
  simp only at h1 h2 h3 ⊢
  split
  · exact ⟨h1, fun h => absurd h ‹_›, fun _ => ⟨rfl, rfl⟩⟩
  · split
    · exact ⟨by decide, fun h => by simp at h, fun _ => ⟨rfl, rfl⟩⟩
    · split
      · exact ⟨by decide, fun h => by simp at h, fun _ => ⟨rfl, rfl⟩⟩
      · have := h2 (by omega)
        exact ⟨by simp, fun _ => ⟨by simp only; omega, by simp only; omega⟩, fun h => by simp at h⟩
theorem allF_nil (k a : Nat) : allF k a [] = [] := by cases k <;> simp [allF]
theorem allF_step {k a : Nat} {l t : List UInt8} {n : Nat} (hl : l ≠ []) (h : openL l = (t, n, 0)) : allF (k + 1) a l = (t, a + n) :: allF k (a + n) (l.drop n) := by
  rw [allF, if_neg hl, h]; simp
theorem allF_stop {k a : Nat} {l t : List UInt8} {n e : Nat} (h : openL l = (t, n, e)) (he : e ≠ 0) : allF k a l = [] := by
  cases k with
  | zero => rfl
  | succ k =>
    rw [allF]
    split
    · rfl
    · rw [h]; simp [he]
theorem putText_len (l : List UInt8) : (putText l).length ≤ 65546 := by
  unfold putText
  split
  · simp
  · have := putV_length l.length
    simp only [List.length_append]; omega
theorem wrapL_len (l : List UInt8) : (wrapL l).length ≤ 65550 := by
  unfold wrapL
  split
  · simp
  · have := putText_len l
    simp only [List.length_append, crcBytes_length]; omega

end Go.Proofs.Ytaalhhgjliofaaa
