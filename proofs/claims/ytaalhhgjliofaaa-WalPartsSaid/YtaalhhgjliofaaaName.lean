/- The contract of the program's Name (silo/path): whether a text is a name. -/
import Derived.Test.YtaalhhgjliofaaaPDisk
import Derived.Test.YtaalhhgjliofaaaShelf
import Derived.Lib.Hide
set_option linter.unusedVariables false
set_option linter.unusedSimpArgs false
set_option maxRecDepth 100000
namespace Go.Proofs.Ytaalhhgjliofaaa
open Go.RowKit Go.Shelf


theorem name_any (s : List UInt8) (w : World) (hs : s.length ≤ 9223372036854775807)
    (hc : ∀ w, s.length ≤ 31 → Calls Try.prog 52 #[.string (bt s), .string ⟨#[0, 47]⟩] w fun e w' => e = .returned (.bool (hasBad s)) ∧ Below w.heap.size w w') :
    Calls Try.prog 35 #[strV s] w fun e w' => e = .returned (.bool (nameB s)) ∧ Below w.heap.size w w' := by
  have es := bt_size s
  have et : (bt s).toList = s := by rw [Go.ByteArray.toList_eq]; rfl
  have HC := Lib.hid hc
  have e1 : s = ([] : List UInt8) ∨ s ≠ [] := by by_cases h : s = [] <;> simp [h]
  clear hc
  have fin : ∀ (b : Bool) (w' : World), nameB s = b → Below w.heap.size w w' → (Ending.returned (Value.bool b) = .returned (.bool (nameB s)) ∧ Below w.heap.size w w') := fun b w' h hb => ⟨by rw [h], hb⟩
  have FIN := Lib.hid fin
  clear fin
  go_enter Try.func35, Try.ntmps35
  simp only [strV]
  rcases e1 with rfl | h1
  · go_wp2_with fail
    go_ret
    exact ⟨rfl, Below.refl _ _⟩
  · have b1 : s.isEmpty = false := by simpa using h1
    by_cases h2 : s.length ≤ 31
    · have b2 : decide ((s.length : Int) ≤ 31) = true := decide_eq_true (by omega)
      by_cases h3 : s = [46]
      · subst h3
        go_wp2_with fail
        go_ret
        exact ⟨rfl, Below.refl _ _⟩
      · have b3 : (!s == [46]) = true := by simpa using h3
        by_cases h4 : s = [46, 46]
        · subst h4
          go_wp2_with fail
          go_ret
          exact ⟨rfl, Below.refl _ _⟩
        · have b4 : (!s == [46, 46]) = true := by simpa using h4
          have hq : nameB s = !hasBad s := by simp [nameB, h1, h2, h3, h4]
          have HQ := Lib.hid hq
          clear hq
          go_wp2_with fail
          refine (HC.out _ h2).mono ?_
          rintro e w' ⟨rfl, hb⟩
          go_wp2_with fail
          go_ret
          exact ⟨by rw [HQ.out]; rfl, hb⟩
    · have b2 : decide ((s.length : Int) ≤ 31) = false := decide_eq_false (by omega)
      have hq : nameB s = false := by simp [nameB, h2]
      have HQ := Lib.hid hq
      clear hq
      go_wp2_with fail
      go_ret
      exact ⟨by rw [HQ.out]; rfl, Below.refl _ _⟩

/-- A text of ASCII bytes alone. -/
theorem any_ascii (s : List UInt8) (w : World) (hl : s.length ≤ 31) (ha : ∀ b ∈ s, b.toNat < 128) :
    Calls Try.prog 52 #[.string (bt s), .string ⟨#[0, 47]⟩] w fun e w' => e = .returned (.bool (hasBad s)) ∧ Below w.heap.size w w' := by
  have hsz := bt_size s
  refine (Try.strings_ContainsAny_laid (bt s) ⟨#[0, 47]⟩ w (by omega) (by decide) (fun j b hb => ha b (List.mem_of_getElem? hb)) (fun j b hb => ?_)).mono ?_
  · match j, hb with
    | 0, hb => cases hb; decide
    | 1, hb => cases hb; decide
    | j + 2, hb => simp at hb
  · rintro e w' ⟨rfl, hb⟩
    refine ⟨?_, hb⟩
    rw [show (⟨#[0, 47]⟩ : ByteArray).data.toList = [0, 47] from rfl, bt_list]
    congr 2
    have key : ∀ l : List UInt8, Lib.containsAny l [0, 47] = hasBad l := by
      intro l
      induction l with
      | nil => rfl
      | cons a l ih =>
        have hge := Lib.indexAny_ge [0, 47] l
        unfold Lib.containsAny at ih ⊢
        rw [Lib.indexAny]
        by_cases h : List.contains [0, 47] a = true
        · rw [if_pos h]
          have : (a == 0 || a == 47) = true := by simpa using h
          simp [hasBad, this]
        · rw [if_neg h]
          have h2 : (a == 0 || a == 47) = false := by simpa using h
          rw [show hasBad (a :: l) = hasBad l by simp [hasBad, h2], ← ih]
          split
          · next h3 => simp at h3; rw [h3]
          · next h3 => simp at h3; congr 1; apply propext; omega
    exact key s

end Go.Proofs.Ytaalhhgjliofaaa
