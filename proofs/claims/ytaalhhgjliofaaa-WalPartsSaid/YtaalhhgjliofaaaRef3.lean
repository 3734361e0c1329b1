/- Contracts of the references' Same (layer 3) and of the laws' light (layer 16). -/
import Derived.Test.YtaalhhgjliofaaaDisk2
set_option linter.unusedVariables false
set_option linter.unusedSimpArgs false
set_option maxRecDepth 100000
namespace Go.Proofs.Ytaalhhgjliofaaa
open Go.RowKit Go.Shelf

/-- The k-th text of a list. -/
theorem str_at {w : World} {S : Nat → Prop} {A : Option Addr} {n c k : Nat} {l : List (List UInt8)} (hf : Lst strR w S (.slice A n c) l) (hS : ∀ k, S k → k < w.heap.size) (hk : k < l.length) :
    ∃ ad, A = some ad ∧ ∀ w', Below w.heap.size w w' → w'.cell? (ad.add k) = some (.string (bt l[k])) := by
  obtain ⟨ad, cs, rfl, hs, hrd, hc⟩ := hf.at_ (List.getElem?_eq_getElem hk)
  have hrd : cs = [strV l[k]] := hrd
  subst hrd
  refine ⟨ad, rfl, fun w' hb => ?_⟩
  have h := hc 0 _ rfl
  rw [show k * strR.sz + 0 = k from by show k * 1 + 0 = k; omega] at h
  exact (hb.cell (by rw [block_add]; exact hS _ hs)).trans h

theorem same3_any (S1 S2 : Nat → Prop) (v1 v2 : Value) (a b : List (List UInt8)) (w : World) (h1 : Lst strR w S1 v1 a) (h2 : Lst strR w S2 v2 b) (hS1 : ∀ k, S1 k → k < w.heap.size) (hS2 : ∀ k, S2 k → k < w.heap.size) :
    Calls Try.prog 8 #[v1, v2] w fun e w' => e = .returned (.bool (decide (a = b))) ∧ ∃ n, w' = w.drewN n := by
  obtain ⟨A1, n1, c1, rfl, hn1, hc1, hm1⟩ := h1.form
  obtain ⟨A2, n2, c2, rfl, hn2, hc2, hm2⟩ := h2.form
  have HL1 := Lib.hid h1
  have HL2 := Lib.hid h2
  have H1 := Lib.hid hn1
  have H2 := Lib.hid hn2
  clear h1 h2 hn1 hn2
  unfold maxLen at hm1 hm2
  by_cases hne : n1 = n2
  · subst hne
    have hb : ((n1 : Int) != n1) = false := by simp
    go_enter Try.func8, Try.ntmps8
    go_wp2_with fail
    go_loopw [5] (fun vi wr => ∃ i k, vi = .int .i64 (i : Nat) ∧ i ≤ n1 ∧ a.take i = b.take i ∧ wr = w.drewN k) (fun vi _ => n1 - (intOf vi).toNat)
    case atStart => exact ⟨0, 0, rfl, Nat.zero_le _, rfl, rfl⟩
    case round =>
      obtain ⟨i, q, rfl, hi, ht, hwr⟩ := hrel
      have HT := Lib.hid ht
      clear ht
      have hbw : Below w.heap.size w wr := by rw [hwr]; exact below_drewN (Below.refl _ _) _
      have HWR := Lib.hid hwr
      clear hwr
      by_cases hlt : i < n1
      · have hi1 : i < a.length := by have := H1.out; omega
        have hi2 : i < b.length := by have := H2.out; omega
        obtain ⟨ad1, hA1, hcl1⟩ := str_at (k := i) HL1.out hS1 hi1
        obtain ⟨ad2, hA2, hcl2⟩ := str_at (k := i) HL2.out hS2 hi2
        subst hA1 hA2
        have q1 := hcl1 wr hbw
        have q2 := hcl2 wr hbw
        have HX1 := Lib.hid (List.take_succ_eq_append_getElem hi1)
        have HX2 := Lib.hid (List.take_succ_eq_append_getElem hi2)
        have HD : Hid (a[i] ≠ b[i] → a ≠ b) := fun h e => by subst e; exact h rfl
        generalize a[i] = x at *
        generalize b[i] = y at *
        have ex := bt_toList x
        have ey := bt_toList y
        have hd : decide ((i : Int) < (n1 : Int)) = true := decide_eq_true (by omega)
        clear hcl1 hcl2
        have mixed : Try.prog.follows .mixedOrders = true := by kernel_rfl
        have e1 : (i : Int) < (n1 : Int) := by omega
        have e2 : (0 : Int) ≤ (i : Int) := by omega
        by_cases hxy : x = y
        · subst hxy
          have hbeq : (!x == x) = false := by simp
          have HE : Hid (a.take (i + 1) = b.take (i + 1)) := by rw [HX1.out, HX2.out, HT.out]; exact rfl
          go_wp2_with fail
          go_quiet (fail)
          go_wp2_with fail
          go_roundw
          case rel => exact ⟨i + 1, _, by go_num, by omega, HE.out, by rw [HWR.out, World.drewN_drewN]⟩
          case measure => simp [intOf]; omega
        · have hbeq : (!x == y) = true := by simpa using hxy
          have HE := Lib.hid (HD.out hxy)
          go_wp2_with fail
          go_quiet (fail)
          go_wp2_with fail
          go_ret
          refine ⟨by rw [decide_eq_false HE.out]; rfl, _, by rw [HWR.out, World.drewN_drewN]⟩
      · have hd : decide ((i : Int) < (n1 : Int)) = false := decide_eq_false (by omega)
        have HE : Hid (a = b) := by
          have := HT.out
          rw [List.take_of_length_le (by have := H1.out; omega), List.take_of_length_le (by have := H2.out; omega)] at this
          exact this
        go_wp2_with fail
        go_ret
        refine ⟨by rw [decide_eq_true HE.out]; rfl, _, HWR.out⟩
  · have hb : ((n1 : Int) != n2) = true := by simp; omega
    have HE : Hid (a ≠ b) := fun e => hne (by rw [H1.out, H2.out, e])
    go_enter Try.func8, Try.ntmps8
    go_wp2_with fail
    go_ret
    refine ⟨by rw [decide_eq_false HE.out]; rfl, 0, rfl⟩

def lightB (l : List (List UInt8)) : Bool := l.all (fun t => decide (t.length ≤ 300)) && decide (l.length ≤ 20)
theorem light_any (S : Nat → Prop) (v : Value) (l : List (List UInt8)) (w : World) (h1 : Lst strR w S v l) (hS : ∀ k, S k → k < w.heap.size) (hx : ∀ t ∈ l, t.length ≤ 9223372036854775807) :
    Calls Try.prog 4 #[v] w fun e w' => e = .returned (.bool (lightB l)) ∧ w = w' := by
  obtain ⟨A1, n1, c1, rfl, hn1, hc1, hm1⟩ := h1.form
  have HL1 := Lib.hid h1
  have H1 := Lib.hid hn1
  have HX := Lib.hid hx
  clear h1 hn1 hx
  unfold maxLen at hm1
  go_enter Try.func4, Try.ntmps4
  go_wp2_with fail
  go_loop [7] (fun vi => ∃ i, vi = .int .i64 (i : Nat) ∧ i ≤ n1 ∧ (∀ t ∈ l.take i, t.length ≤ 300)) (fun vi => n1 - (intOf vi).toNat)
  case atStart => exact ⟨0, rfl, Nat.zero_le _, by simp⟩
  case round =>
    obtain ⟨i, rfl, hi, ht⟩ := hrel
    have HT := Lib.hid ht
    clear ht
    by_cases hlt : i < n1
    · have hi1 : i < l.length := by have := H1.out; omega
      obtain ⟨ad1, hA1, hcl1⟩ := str_at (k := i) HL1.out hS hi1
      subst hA1
      have q1 := hcl1 w (Below.refl _ _)
      have HX1 := Lib.hid (List.take_succ_eq_append_getElem hi1)
      have hxl := HX.out l[i] (List.getElem_mem hi1)
      have HM := Lib.hid (List.getElem_mem hi1)
      generalize l[i] = x at *
      have ex := bt_size x
      have hd : decide ((i : Int) < (n1 : Int)) = true := decide_eq_true (by omega)
      clear hcl1
      by_cases hbig : 300 < x.length
      · have hd2 : decide (300 < (x.length : Int)) = true := decide_eq_true (by omega)
        have HE : Hid (lightB l = false) := by
          unfold lightB
          rw [Bool.and_eq_false_iff]
          left
          rw [List.all_eq_false]
          exact ⟨x, HM.out, by simp; omega⟩
        go_wp2_with fail
        go_ret
        exact ⟨by rw [HE.out]; rfl, rfl⟩
      · have hd2 : decide (300 < (x.length : Int)) = false := decide_eq_false (by omega)
        have HE : Hid (∀ t ∈ l.take (i + 1), t.length ≤ 300) := by
          intro t ht
          rw [HX1.out] at ht
          rcases List.mem_append.1 ht with h | h
          · exact HT.out t h
          · rw [List.mem_singleton.1 h]; omega
        go_wp2_with fail
        go_round
        case rel => exact ⟨i + 1, by go_num, by omega, HE.out⟩
        case measure => simp [intOf]; omega
    · have hd : decide ((i : Int) < (n1 : Int)) = false := decide_eq_false (by omega)
      have HE : Hid (lightB l = decide ((n1 : Int) ≤ 20)) := by
        have h2 := HT.out
        rw [List.take_of_length_le (by have := H1.out; omega)] at h2
        unfold lightB
        rw [List.all_eq_true.2 (fun t ht => by simpa using h2 t ht), Bool.true_and, ← H1.out]
        by_cases h : n1 ≤ 20
        · rw [decide_eq_true h, decide_eq_true (by omega)]; exact rfl
        · rw [decide_eq_false h, decide_eq_false (by omega)]; exact rfl
      go_wp2_with fail
      go_ret
      exact ⟨by rw [HE.out]; rfl, rfl⟩

end Go.Proofs.Ytaalhhgjliofaaa
