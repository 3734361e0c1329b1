/- Plain facts about numbers of as many bytes as they need: what Put writes, what Take reads, and that the two are each other's. -/
import Derived.Laws.BitsAllLaws
set_option linter.unusedVariables false
set_option linter.unusedSimpArgs false
set_option maxRecDepth 100000
namespace Go.Proofs.Ytaalhhgjliofaaa

/-- A number as bytes, m of them at most. -/
def putF : Nat → Nat → List UInt8
  | 0, _ => []
  | m + 1, n => if n ≤ 127 then [UInt8.ofNat n] else UInt8.ofNat (n % 128 + 128) :: putF m (n / 128)
def putV (n : Nat) : List UInt8 := putF 10 n
/-- The groups of seven bits of bytes, up to the last one, k at most. -/
def grp : Nat → List UInt8 → List (Nat × Bool)
  | 0, _ => []
  | _ + 1, [] => []
  | k + 1, c :: r => (c.toNat % 128, decide (c.toNat < 128)) :: (if c.toNat < 128 then [] else grp k r)
/-- The number that bytes begin with, how many they are, an error (0: none). -/
def takeF : Nat → Nat → List UInt8 → Nat × Nat × Nat
  | _, _, [] => (0, 0, 1)
  | i, n, c :: r =>
    if i = 9 ∧ (1 < c.toNat % 128 ∨ ¬ c.toNat < 128) then (0, 0, 4)
    else if c.toNat < 128 then (if c.toNat % 128 = 0 ∧ 0 < i then (0, 0, 2) else (n + c.toNat % 128 * 2 ^ (7 * i), i + 1, 0))
    else takeF (i + 1) (n + c.toNat % 128 * 2 ^ (7 * i)) r
def takeV (l : List UInt8) : Nat × Nat × Nat := takeF 0 0 l

theorem putF_length (m n : Nat) : (putF m n).length ≤ m := by
  induction m generalizing n with
  | zero => simp [putF]
  | succ m ih =>
    unfold putF
    split
    · simp
    · simp only [List.length_cons]; have := ih (n / 128); omega
theorem putV_length (n : Nat) : (putV n).length ≤ 10 := putF_length 10 n

/-- What Take does at one group. -/
def stepG (i n : Nat) (g : Nat × Bool) : (Nat × Nat) ⊕ (Nat × Nat × Nat) :=
  if i = 9 ∧ (1 < g.1 ∨ g.2 = false) then .inr (0, 0, 4)
  else if g.2 = true then (if g.1 = 0 ∧ 0 < i then .inr (0, 0, 2) else .inr (n + g.1 * 2 ^ (7 * i), i + 1, 0))
  else .inl (i + 1, n + g.1 * 2 ^ (7 * i))
def runG : Nat → Nat → List (Nat × Bool) → Nat × Nat × Nat
  | _, _, [] => (0, 0, 1)
  | i, n, g :: r => match stepG i n g with
    | .inr x => x
    | .inl (i', n') => runG i' n' r

/-- Over ten groups at most Take tells what the bytes say. -/
theorem runG_grp (k : Nat) : ∀ (i n : Nat) (l : List UInt8), i + k = 10 → 0 < k → runG i n (grp k l) = takeF i n l := by
  induction k with
  | zero => intro i n l _ h; omega
  | succ k ih =>
    intro i n l hk _
    cases l with
    | nil => rfl
    | cons c r =>
      unfold grp runG takeF stepG
      by_cases h9 : i = 9 ∧ (1 < c.toNat % 128 ∨ ¬ c.toNat < 128)
      · rw [if_pos h9, if_pos (by simpa using h9)]
      · rw [if_neg h9, if_neg (by simpa using h9)]
        by_cases hc : c.toNat < 128
        · simp only [hc, if_true, decide_true]
          by_cases h0 : c.toNat % 128 = 0 ∧ 0 < i
          · rw [if_pos h0, if_pos h0]
          · rw [if_neg h0, if_neg h0]
        · simp only [hc, if_false, decide_false, Bool.false_eq_true]
          have hi : i ≠ 9 := fun h => h9 ⟨h, .inr hc⟩
          exact ih (i + 1) _ r (by omega) (by omega)

theorem drop_cons {α : Type} (l : List α) (k : Nat) (h : k < l.length) : l.drop k = l[k] :: l.drop (k + 1) := List.drop_eq_getElem_cons h
theorem grp_cons (k : Nat) (c : UInt8) (r : List UInt8) : grp (k + 1) (c :: r) = (c.toNat % 128, decide (c.toNat < 128)) :: (if c.toNat < 128 then [] else grp k r) := rfl
theorem grp_nil (k : Nat) : grp k [] = [] := by cases k <;> rfl
theorem u8_and127 (c : UInt8) : bits .and .u8 (c.toNat : Int) 127 = ((c.toNat % 128 : Nat) : Int) := by
  have h := u8_and_nat c.toNat 127 c.toNat_lt (by omega)
  rw [nat_mask7] at h
  exact h

theorem grp_length (k : Nat) : ∀ l : List UInt8, (grp k l).length ≤ k := by
  induction k with
  | zero => intro l; simp [grp]
  | succ k ih =>
    intro l
    cases l with
    | nil => simp [grp]
    | cons c r =>
      rw [grp_cons]
      split
      · simp
      · simp only [List.length_cons]; have := ih r; omega
theorem grp_lt (k : Nat) : ∀ (l : List UInt8) (g : Nat × Bool), g ∈ grp k l → g.1 < 128 := by
  induction k with
  | zero => intro l g h; simp [grp] at h
  | succ k ih =>
    intro l g h
    cases l with
    | nil => simp [grp] at h
    | cons c r =>
      rw [grp_cons] at h
      rcases List.mem_cons.1 h with rfl | h
      · exact Nat.mod_lt _ (by omega)
      · split at h
        · simp at h
        · exact ih r g h
theorem takeV_runG (l : List UInt8) : takeV l = runG 0 0 (grp 10 l) := (runG_grp 10 0 0 l rfl (by omega)).symm
theorem runG_inl {i n i' n' : Nat} {g : Nat × Bool} (h : stepG i n g = .inl (i', n')) (r : List (Nat × Bool)) : runG i n (g :: r) = runG i' n' r := by rw [runG, h]
theorem runG_inr {i n : Nat} {g : Nat × Bool} {t : Nat × Nat × Nat} (h : stepG i n g = .inr t) (r : List (Nat × Bool)) : runG i n (g :: r) = t := by rw [runG, h]
theorem stepG_more {i n b : Nat} (hi : i ≠ 9) : stepG i n (b, false) = .inl (i + 1, n + b * 2 ^ (7 * i)) := by simp [stepG, hi]
theorem stepG_form {i n : Nat} (hi : 0 < i) : stepG i n (0, true) = .inr (0, 0, 2) := by
  unfold stepG
  rw [if_neg (by simp), if_pos rfl, if_pos ⟨rfl, hi⟩]
theorem stepG_done {i n b : Nat} (h9 : i = 9 → b ≤ 1) (h0 : b = 0 → i = 0) : stepG i n (b, true) = .inr (n + b * 2 ^ (7 * i), i + 1, 0) := by
  unfold stepG
  rw [if_neg (by intro h; have := h9 h.1; rcases h.2 with h2 | h2; (simp at h2; omega); (simp at h2)), if_pos rfl, if_neg (by intro h; have := h0 h.1; omega)]
theorem stepG_range {n b : Nat} {last : Bool} (h : 1 < b ∨ last = false) : stepG 9 n (b, last) = .inr (0, 0, 4) := by
  unfold stepG
  rw [if_pos ⟨rfl, h⟩]

theorem take_or {n g i : Nat} (hn64 : n < 18446744073709551616) (hn : n < 2 ^ (7 * i)) (hg : g * 2 ^ (7 * i) < 18446744073709551616) :
    bits .or .u64 (n : Int) (IntKind.u64.wrap ((g : Int) * 2 ^ (7 * i))) = ((n + g * 2 ^ (7 * i) : Nat) : Int) := by
  have hw : IntKind.u64.wrap ((g : Int) * 2 ^ (7 * i)) = ((g * 2 ^ (7 * i) : Nat) : Int) := by
    have e : (g : Int) * 2 ^ (7 * i) = ((g * 2 ^ (7 * i) : Nat) : Int) := by push_cast; rfl
    rw [e]
    generalize g * 2 ^ (7 * i) = x at *
    simp [IntKind.wrap, IntKind.bits, IntKind.signed]
    omega
  rw [hw, u64_or_nat n _ hn64 hg, Nat.or_comm, nat_join (7 * i) _ n (by simp) hn, Nat.add_comm]
theorem pow7_le {i : Nat} (hi : i ≤ 9) : 2 ^ (7 * i) ≤ 9223372036854775808 := by
  have : 2 ^ (7 * i) ≤ 2 ^ 63 := Nat.pow_le_pow_right (by omega) (by omega)
  simpa using this
theorem take_bound {n g i : Nat} (hi : i ≤ 9) (hn : n < 2 ^ (7 * i)) (hg : g < 128) (h9 : i = 9 → g ≤ 1) : n < 18446744073709551616 ∧ g * 2 ^ (7 * i) < 18446744073709551616 ∧ n + g * 2 ^ (7 * i) < 2 ^ (7 * (i + 1)) := by
  have h1 := pow7_le hi
  have e : 2 ^ (7 * (i + 1)) = 128 * 2 ^ (7 * i) := by rw [Nat.mul_add, Nat.pow_add, Nat.mul_comm]
  refine ⟨by omega, ?_, ?_⟩
  · by_cases h : i = 9
    · subst h; have := h9 rfl; simp only [Nat.reduceMul, Nat.reducePow]; omega
    · have h2 : 2 ^ (7 * i) ≤ 2 ^ 56 := Nat.pow_le_pow_right (by omega) (by omega)
      simp only [Nat.reducePow] at h2
      have : g * 2 ^ (7 * i) ≤ 127 * 2 ^ (7 * i) := Nat.mul_le_mul_right _ (by omega)
      omega
  · rw [e]
    have : g * 2 ^ (7 * i) ≤ 127 * 2 ^ (7 * i) := Nat.mul_le_mul_right _ (by omega)
    omega

theorem u8_or128n : ∀ y : Nat, y < 256 → y ||| 128 = y % 128 + 128 := by decide
theorem put_or (n : Nat) : bits .or .u8 ((n : Int) % 256) 128 = ((n % 128 + 128 : Nat) : Int) := by
  have h := u8_or_nat (n % 256) 128 (Nat.mod_lt _ (by omega)) (by omega)
  rw [u8_or128n _ (Nat.mod_lt _ (by omega))] at h
  have e : ((n % 256 : Nat) : Int) = (n : Int) % 256 := by push_cast; rfl
  rw [e] at h
  rw [show n % 128 = n % 256 % 128 by omega]
  exact h
theorem putF_more {m n : Nat} (h : ¬ n ≤ 127) : putF (m + 1) n = UInt8.ofNat (n % 128 + 128) :: putF m (n / 128) := by rw [putF, if_neg h]
theorem putF_last {m n : Nat} (h : n ≤ 127) : putF (m + 1) n = [UInt8.ofNat n] := by rw [putF, if_pos h]
/-- A text with its length ahead; none: it is too long. -/
def putText (l : List UInt8) : List UInt8 := if 65536 < l.length then [] else putV l.length ++ l
/-- The text that bytes begin with, how many bytes they are, an error. -/
def takeText (l : List UInt8) : List UInt8 × Nat × Nat :=
  match takeV l with
  | (n, k, e) => if e ≠ 0 then ([], 0, e) else if 65536 < n then ([], 0, 4) else if l.length - k < n then ([], 0, 1) else ((l.drop k).take n, k + n, 0)
/-- Where Take tells a number, it is of 64 bits and of no more bytes than there are. -/
theorem takeF_ok : ∀ (l : List UInt8) (i n : Nat), i ≤ 9 → n < 2 ^ (7 * i) → (takeF i n l).1 < 18446744073709551616 ∧ (takeF i n l).2.2 < 5 ∧ ((takeF i n l).2.2 = 0 → i < (takeF i n l).2.1 ∧ (takeF i n l).2.1 ≤ i + l.length) ∧ (takeF i n l).2.1 ≤ 10 := by
  intro l
  induction l with
  | nil => intro i n _ _; simp [takeF]
  | cons c r ih =>
    intro i n hi hn
    unfold takeF
    split
    · simp
    · rename_i h9
      have hb := take_bound (g := c.toNat % 128) hi hn (Nat.mod_lt _ (by omega)) (fun h => by
        rcases Nat.lt_or_ge 1 (c.toNat % 128) with h1 | h1
        · exact absurd ⟨h, .inl h1⟩ h9
        · exact h1)
      split
      · split
        · simp
        · have hp : 2 ^ (7 * (i + 1)) ≤ 2 ^ 70 := Nat.pow_le_pow_right (by omega) (by omega)
          refine ⟨?_, by simp, fun _ => ⟨by simp, by simp⟩, by simp; omega⟩
          have h1 := pow7_le hi
          by_cases h : i = 9
          · subst h
            have hg1 : c.toNat % 128 ≤ 1 := by
              rcases Nat.lt_or_ge 1 (c.toNat % 128) with h1 | h1
              · exact absurd ⟨rfl, .inl h1⟩ h9
              · exact h1
            have : c.toNat % 128 * 2 ^ (7 * 9) ≤ 1 * 2 ^ (7 * 9) := Nat.mul_le_mul_right _ hg1
            simp only [Nat.reduceMul, Nat.reducePow] at *
            omega
          · have h2 : 2 ^ (7 * i) ≤ 2 ^ 56 := Nat.pow_le_pow_right (by omega) (by omega)
            have : c.toNat % 128 * 2 ^ (7 * i) ≤ 127 * 2 ^ (7 * i) := Nat.mul_le_mul_right _ (by omega)
            simp only [Nat.reducePow] at h2
            omega
      · rename_i hc
        have h9' : i ≠ 9 := fun h => h9 ⟨h, .inr hc⟩
        obtain ⟨a, b, cc, d⟩ := ih (i + 1) _ (by omega) hb.2.2
        refine ⟨a, b, fun h => ?_, d⟩
        obtain ⟨c1, c2⟩ := cc h
        simp only [List.length_cons]
        omega
theorem takeV_ok (l : List UInt8) : (takeV l).1 < 18446744073709551616 ∧ (takeV l).2.2 < 5 ∧ ((takeV l).2.2 = 0 → 0 < (takeV l).2.1 ∧ (takeV l).2.1 ≤ l.length) ∧ (takeV l).2.1 ≤ 10 := by
  have := takeF_ok l 0 0 (by omega) (by decide)
  simpa [takeV] using this

end Go.Proofs.Ytaalhhgjliofaaa
