/- Plain facts: what was put is taken back: numbers, texts, frames, and frames one behind the other. -/
import Derived.Test.YtaalhhgjliofaaaPFrm
set_option linter.unusedVariables false
set_option linter.unusedSimpArgs false
set_option maxRecDepth 100000
namespace Go.Proofs.Ytaalhhgjliofaaa

theorem ofNat_toNat_lt {n : Nat} (h : n < 256) : (UInt8.ofNat n).toNat = n := by
  simp only [UInt8.toNat_ofNat']; omega
theorem takeF_putF (rest : List UInt8) : ∀ (m i a n : Nat), n < 2 ^ (7 * m) → n * 2 ^ (7 * i) < 18446744073709551616 → 0 < m → i + m ≤ 10 → (n = 0 → i = 0) →
    takeF i a (putF m n ++ rest) = (a + n * 2 ^ (7 * i), i + (putF m n).length, 0) := by
  intro m
  induction m with
  | zero => intro i a n _ _ h; omega
  | succ m ih =>
    intro i a n hn hb _ him h0
    have h9 : i = 9 → n ≤ 1 := by
      rintro rfl
      simp only [Nat.reduceMul, Nat.reducePow] at hb
      omega
    unfold putF
    by_cases hl : n ≤ 127
    · rw [if_pos hl, List.singleton_append, takeF, ofNat_toNat_lt (by omega), Nat.mod_eq_of_lt (by omega), if_neg (by
        rintro ⟨h, h2⟩
        have := h9 h
        omega), if_pos (by omega), if_neg (by
        rintro ⟨h, h2⟩
        have := h0 h
        omega)]
      rfl
    · rw [if_neg hl, List.cons_append, takeF, ofNat_toNat_lt (by omega), if_neg (by
        rintro ⟨h, h2⟩
        have := h9 h
        omega), if_neg (by omega), show (n % 128 + 128) % 128 = n % 128 by omega]
      have hp : 2 ^ (7 * (m + 1)) = 128 * 2 ^ (7 * m) := by rw [Nat.mul_add, Nat.pow_add, Nat.mul_comm]
      have hq : 2 ^ (7 * (i + 1)) = 128 * 2 ^ (7 * i) := by rw [Nat.mul_add, Nat.pow_add, Nat.mul_comm]
      have hd : n / 128 * 2 ^ (7 * (i + 1)) + n % 128 * 2 ^ (7 * i) = n * 2 ^ (7 * i) := by
        rw [hq, ← Nat.mul_assoc, ← Nat.add_mul]
        congr 1; omega
      have hm : 0 < m := by
        rcases Nat.eq_zero_or_pos m with rfl | h
        · simp at hn; omega
        · exact h
      rw [ih (i + 1) _ (n / 128) (by omega) (by omega) hm (by omega) (by omega)]
      simp only [List.length_cons, Prod.mk.injEq]
      exact ⟨by omega, by omega, trivial⟩
theorem takeV_putV {n : Nat} (hn : n < 18446744073709551616) (rest : List UInt8) : takeV (putV n ++ rest) = (n, (putV n).length, 0) := by
  unfold takeV putV
  rw [takeF_putF rest 10 0 0 n (by simp only [Nat.reduceMul, Nat.reducePow]; omega) (by simpa using hn) (by omega) (by omega) (fun _ => rfl)]
  simp
theorem putF_ne (m n : Nat) (h : 0 < m) : putF m n ≠ [] := by
  obtain ⟨m, rfl⟩ : ∃ k, m = k + 1 := ⟨m - 1, by omega⟩
  unfold putF
  split <;> simp
theorem putV_ne (n : Nat) : putV n ≠ [] := putF_ne 10 n (by omega)
theorem putText_some {l : List UInt8} (h : l.length ≤ 65536) : putText l = putV l.length ++ l := by unfold putText; rw [if_neg (by omega)]
theorem putText_ne {l : List UInt8} (h : l.length ≤ 65536) : putText l ≠ [] := by rw [putText_some h]; simp [putV_ne]
theorem takeText_putText {l : List UInt8} (h : l.length ≤ 65536) (rest : List UInt8) : takeText (putText l ++ rest) = (l, (putText l).length, 0) := by
  rw [putText_some h, List.append_assoc]
  unfold takeText
  rw [takeV_putV (by omega)]
  simp only
  rw [if_neg (by simp), if_neg (by omega), if_neg (by simp)]
  simp
theorem wrapL_some {l : List UInt8} (h : l.length ≤ 65536) : wrapL l = putText l ++ crcBytes (crcSum (putText l)) := by unfold wrapL; rw [if_neg (putText_ne h)]
theorem wrapL_ne {l : List UInt8} (h : l.length ≤ 65536) : wrapL l ≠ [] := by rw [wrapL_some h]; simp [putText_ne h]
theorem openL_wrapL {l : List UInt8} (h : l.length ≤ 65536) (rest : List UInt8) : openL (wrapL l ++ rest) = (l, (wrapL l).length, 0) := by
  rw [wrapL_some h, List.append_assoc]
  unfold openL
  rw [takeText_putText h]
  simp only
  have hl := crcBytes_length (crcSum (putText l))
  rw [if_neg (by simp), if_neg (by simp [hl]), if_neg (by simp [hl])]
  simp [hl]
/-- Frames one behind the other. -/
def wraps (ls : List (List UInt8)) : List UInt8 := ls.flatMap wrapL
theorem wraps_cons (l : List UInt8) (ls : List (List UInt8)) : wraps (l :: ls) = wrapL l ++ wraps ls := rfl
theorem wraps_append (a b : List (List UInt8)) : wraps (a ++ b) = wraps a ++ wraps b := by simp [wraps]
theorem allF_more : ∀ (k j a : Nat) (l : List UInt8), l.length < k → k ≤ j → allF j a l = allF k a l := by
  intro k
  induction k with
  | zero => intro j a l h; omega
  | succ k ih =>
    intro j a l h hj
    obtain ⟨j, rfl⟩ : ∃ i, j = i + 1 := ⟨j - 1, by omega⟩
    rw [allF, allF]
    split
    · rfl
    · obtain ⟨t, n, e, ho⟩ : ∃ t n e, openL l = (t, n, e) := ⟨_, _, _, rfl⟩
      rw [ho]
      simp only
      split
      · rfl
      · have := (openL_ok l).2.1
        rw [ho] at this
        simp only at this
        have h2 := this (by omega)
        rw [ih j (a + n) (l.drop n) (by simp; omega) (by omega)]
theorem takeF_form : ∀ (l : List UInt8) (i a v k : Nat), takeF i a l = (v, k, 0) → i ≤ 9 → ∃ n, v = a + n * 2 ^ (7 * i) ∧ l = putF (10 - i) n ++ l.drop (k - i) ∧ k = i + (putF (10 - i) n).length ∧ (n = 0 → i = 0) := by
  intro l
  induction l with
  | nil => intro i a v k h; simp [takeF] at h
  | cons c r ih =>
    intro i a v k h hi
    have hc256 : c.toNat < 256 := c.toNat_lt
    have hof : UInt8.ofNat c.toNat = c := by simp
    obtain ⟨m, hm⟩ : ∃ m, 10 - i = m + 1 := ⟨9 - i, by omega⟩
    rw [takeF] at h
    split at h
    · simp at h
    · rename_i h9
      split at h
      · rename_i hc
        split at h
        · simp at h
        · rename_i h0
          simp only [Prod.mk.injEq] at h
          obtain ⟨rfl, rfl, -⟩ := h
          refine ⟨c.toNat, by rw [Nat.mod_eq_of_lt hc], ?_, ?_, ?_⟩
          · rw [hm, putF, if_pos (by omega), hof, show i + 1 - i = 1 by omega]; rfl
          · rw [hm, putF, if_pos (by omega)]; rfl
          · intro h
            rcases Nat.eq_zero_or_pos i with h1 | h1
            · exact h1
            · exact absurd ⟨by omega, h1⟩ h0
      · rename_i hc
        have hi9 : i ≠ 9 := fun h => h9 ⟨h, .inr hc⟩
        obtain ⟨n, hv, hl, hk, hn⟩ := ih (i + 1) _ v k h (by omega)
        have hm2 : 10 - (i + 1) = m := by omega
        rw [hm2] at hl hk
        have hn0 : n ≠ 0 := fun h => absurd (hn h) (by omega)
        have hq : 2 ^ (7 * (i + 1)) = 128 * 2 ^ (7 * i) := by rw [Nat.mul_add, Nat.pow_add, Nat.mul_comm]
        refine ⟨c.toNat % 128 + 128 * n, ?_, ?_, ?_, fun h => by omega⟩
        · rw [hv, hq, Nat.add_mul, Nat.mul_assoc, Nat.mul_left_comm, Nat.add_assoc]
        · rw [hm, putF, if_neg (by omega), show (c.toNat % 128 + 128 * n) % 128 + 128 = c.toNat by omega, show (c.toNat % 128 + 128 * n) / 128 = n by omega, hof, show k - i = (k - (i + 1)) + 1 by omega, List.drop_succ_cons, List.cons_append, ← hl]
        · rw [hm, putF, if_neg (by omega), show (c.toNat % 128 + 128 * n) / 128 = n by omega, List.length_cons]; omega
/-- What was taken was put so. -/
theorem takeV_form {l : List UInt8} {v k : Nat} (h : takeV l = (v, k, 0)) : l = putV v ++ l.drop k ∧ k = (putV v).length := by
  obtain ⟨n, hv, hl, hk, -⟩ := takeF_form l 0 0 v k h (by omega)
  simp only [Nat.mul_zero, Nat.pow_zero, Nat.mul_one, Nat.zero_add, Nat.sub_zero] at hv hl hk
  subst hv
  exact ⟨hl, hk⟩
theorem takeText_form {l t : List UInt8} {n : Nat} (h : takeText l = (t, n, 0)) : t.length ≤ 65536 ∧ l = putText t ++ l.drop n ∧ n = (putText t).length := by
  unfold takeText at h
  obtain ⟨v, k, e, hv⟩ : ∃ v k e, takeV l = (v, k, e) := ⟨_, _, _, rfl⟩
  rw [hv] at h
  simp only at h
  split at h
  · simp at h; omega
  · rename_i he
    have he : e = 0 := by omega
    subst he
    obtain ⟨hl, hk⟩ := takeV_form hv
    split at h
    · simp at h
    · split at h
      · simp at h
      · rename_i h1 h2
        simp only [Prod.mk.injEq] at h
        obtain ⟨rfl, rfl, -⟩ := h
        have hlen : ((l.drop k).take v).length = v := by simp; omega
        refine ⟨by omega, ?_, ?_⟩
        · rw [putText_some (by omega), hlen, List.append_assoc, ← List.drop_drop, List.take_append_drop, ← hl]
        · rw [putText_some (by omega), hlen, List.length_append, hlen, ← hk]
theorem openL_form {l t : List UInt8} {n : Nat} (h : openL l = (t, n, 0)) : t.length ≤ 65536 ∧ l = wrapL t ++ l.drop n ∧ n = (wrapL t).length := by
  unfold openL at h
  obtain ⟨v, k, e, hv⟩ : ∃ v k e, takeText l = (v, k, e) := ⟨_, _, _, rfl⟩
  rw [hv] at h
  simp only at h
  split at h
  · simp at h; omega
  · rename_i he
    have he : e = 0 := by omega
    subst he
    obtain ⟨ht, hl, hk⟩ := takeText_form hv
    split at h
    · simp at h
    · split at h
      · simp at h
      · rename_i h1 h2
        simp only [Prod.mk.injEq] at h
        obtain ⟨rfl, rfl, -⟩ := h
        have h2 : crcBytes (crcSum (l.take k)) = (l.drop k).take 4 := by
          by_cases h3 : crcBytes (crcSum (l.take k)) = (l.drop k).take 4
          · exact h3
          · exact absurd h3 h2
        have htk : l.take k = putText v := by
          conv => lhs; rw [hl]
          rw [hk, List.take_left']; rfl
        refine ⟨ht, ?_, ?_⟩
        · rw [wrapL_some ht, ← htk, h2, List.append_assoc, ← List.drop_drop, List.take_append_drop, List.take_append_drop]
        · rw [wrapL_some ht, List.length_append, crcBytes_length, ← hk]
/-- Frames one behind the other, and what is behind them. -/
theorem allF_wraps : ∀ (ls : List (List UInt8)) (rest : List UInt8) (k a : Nat), (∀ l ∈ ls, l.length ≤ 65536) → (wraps ls ++ rest).length < k →
    ∃ xs : List (List UInt8 × Nat), xs.map (·.1) = ls ∧ (ls ≠ [] → lastEnd xs = a + (wraps ls).length) ∧ allF k a (wraps ls ++ rest) = xs ++ allF k (a + (wraps ls).length) rest := by
  intro ls
  induction ls with
  | nil => intro rest k a _ h; exact ⟨[], rfl, fun h => absurd rfl h, by simp [wraps]⟩
  | cons l ls ih =>
    intro rest k a hl hk
    obtain ⟨k, rfl⟩ : ∃ j, k = j + 1 := ⟨k - 1, by omega⟩
    have hl1 : l.length ≤ 65536 := hl l (by simp)
    rw [wraps_cons, List.append_assoc] at hk ⊢
    have hne := wrapL_ne hl1
    have hpos : 0 < (wrapL l).length := List.length_pos_iff.2 hne
    rw [List.length_append] at hk
    have ho := openL_wrapL hl1 (wraps ls ++ rest)
    rw [allF_step (by simp [hne]) ho, List.drop_left' rfl]
    obtain ⟨xs, h1, h2, h3⟩ := ih rest k (a + (wrapL l).length) (fun x hx => hl x (List.mem_cons_of_mem _ hx)) (by omega)
    refine ⟨(l, a + (wrapL l).length) :: xs, by rw [List.map_cons, h1], fun _ => ?_, ?_⟩
    · rw [List.length_append]
      by_cases hls : ls = []
      · subst hls
        have : xs = [] := by simpa using h1
        subst this
        simp [lastEnd, wraps]
      · have hx : xs ≠ [] := fun h => hls (by rw [← h1, h]; rfl)
        have := h2 hls
        unfold lastEnd at this ⊢
        rw [List.getLast?_cons_of_ne_nil hx, this]; omega
    · rw [h3, List.length_append, ← Nat.add_assoc]
      have := allF_more k (k + 1) (a + (wrapL l).length + (wraps ls).length) rest (by simp at hk; omega) (by omega)
      rw [this]; rfl
theorem scan_wraps {ls : List (List UInt8)} (hl : ∀ l ∈ ls, l.length ≤ 65536) : scanT (wraps ls) = ls ∧ scanN (wraps ls) = (wraps ls).length := by
  obtain ⟨xs, h1, h2, h3⟩ := allF_wraps ls [] ((wraps ls).length + 1) 0 hl (by simp)
  rw [List.append_nil, allF_nil, List.append_nil] at h3
  unfold scanT scanN allL
  rw [h3]
  refine ⟨h1, ?_⟩
  by_cases hls : ls = []
  · subst hls
    have : xs = [] := by simpa using h1
    subst this; rfl
  · rw [h2 hls]; omega
/-- What a scan finds is frames, one behind the other. -/
theorem allF_form : ∀ (k a : Nat) (l : List UInt8), ∃ m, (∀ t ∈ (allF k a l).map (·.1), t.length ≤ 65536) ∧ (allF k a l ≠ [] → lastEnd (allF k a l) = a + m) ∧ (allF k a l = [] → m = 0) ∧ m = (wraps ((allF k a l).map (·.1))).length ∧ l = wraps ((allF k a l).map (·.1)) ++ l.drop m := by
  intro k
  induction k with
  | zero => intro a l; exact ⟨0, by simp [allF], fun h => absurd rfl h, fun _ => rfl, rfl, by simp [allF, wraps]⟩
  | succ k ih =>
    intro a l
    by_cases hl : l = []
    · subst hl; exact ⟨0, by simp [allF], fun h => by simp [allF] at h, fun _ => rfl, by simp [allF, wraps], by simp [allF, wraps]⟩
    · obtain ⟨t, n, e, ho⟩ : ∃ t n e, openL l = (t, n, e) := ⟨_, _, _, rfl⟩
      by_cases he : e = 0
      · subst he
        obtain ⟨ht, hf, hn⟩ := openL_form ho
        obtain ⟨m, i1, i2, i3, i4, i5⟩ := ih (a + n) (l.drop n)
        rw [allF_step hl ho]
        refine ⟨n + m, ?_, fun _ => ?_, fun h => by simp at h, ?_, ?_⟩
        · intro x hx
          rw [List.map_cons] at hx
          rcases List.mem_cons.1 hx with rfl | hx
          · exact ht
          · exact i1 x hx
        · by_cases hx : allF k (a + n) (l.drop n) = []
          · rw [hx, i3 hx]; simp [lastEnd]
          · have := i2 hx
            unfold lastEnd at this ⊢
            rw [List.getLast?_cons_of_ne_nil hx, this]; omega
        · rw [List.map_cons, wraps_cons, List.length_append, ← i4, ← hn]
        · rw [List.map_cons, wraps_cons, List.append_assoc, ← List.drop_drop, ← i5, ← hf]
      · rw [allF_stop ho he]
        exact ⟨0, by simp, fun h => absurd rfl h, fun _ => rfl, by simp [wraps], by simp [wraps]⟩
theorem scan_form (l : List UInt8) : (∀ t ∈ scanT l, t.length ≤ 65536) ∧ scanN l = (wraps (scanT l)).length ∧ l.take (scanN l) = wraps (scanT l) ∧ scanN l ≤ l.length := by
  obtain ⟨m, h1, h2, h3, h4, h5⟩ := allF_form (l.length + 1) 0 l
  have hN : scanN l = m := by
    unfold scanN allL
    by_cases hx : allF (l.length + 1) 0 l = []
    · rw [hx, h3 hx]; rfl
    · rw [h2 hx]; omega
  have hT : scanT l = (allF (l.length + 1) 0 l).map (·.1) := rfl
  rw [hN, hT]
  have h6 : l.take m = wraps ((allF (l.length + 1) 0 l).map (·.1)) := by
    conv => lhs; rw [h5]
    rw [h4, List.take_left']; rfl
  refine ⟨h1, h4, h6, ?_⟩
  have := congrArg List.length h5
  rw [List.length_append, ← h4] at this
  omega

end Go.Proofs.Ytaalhhgjliofaaa
