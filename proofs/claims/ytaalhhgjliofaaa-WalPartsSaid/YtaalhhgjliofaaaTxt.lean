/- Contracts of the program's Put, PutText and TakeText (silo/varint). -/
import Derived.Test.YtaalhhgjliofaaaTake
set_option linter.unusedVariables false
set_option linter.unusedSimpArgs false
set_option maxRecDepth 100000
namespace Go.Proofs.Ytaalhhgjliofaaa
open Go.RowKit Go.Shelf

theorem put_any (n : Nat) (w : World) (hn : n < 18446744073709551616) :
    Calls Try.prog 29 #[.int .u64 n] w fun e w' => e = .returned (.string ⟨(putV n).toArray⟩) ∧ Below w.heap.size w w' := by
  go_enter Try.func29, Try.ntmps29
  go_wp2
  go_loopw [0] (fun x wr => ∃ (m y : Nat) (l : List UInt8), x = .int .u64 y ∧ y < 18446744073709551616 ∧ m ≤ 9 ∧ y < 2 ^ (7 * (m + 1)) ∧ l.length + m = 9 ∧ l ++ putF (m + 1) y = putV n ∧ Bld wr w.heap.size w.heap.size l ∧ Below w.heap.size w wr) (fun x _ => (intOf x).toNat)
  case atStart => exact ⟨9, n, [], rfl, hn, by omega, by simp only [Nat.reduceMul, Nat.reduceAdd, Nat.reducePow]; omega, rfl, rfl, Bld.fresh w, (Below.refl _ w).alloc (Nat.le_refl _) _⟩
  case round =>
    obtain ⟨m, y, l, rfl, hy, hm, hy2, hl, hput, hb, hbel⟩ := hrel
    have HL := Lib.hid hl
    have hl2 : l.length < 140737488355328 := by omega
    have HP := Lib.hid hput
    have HY2 := Lib.hid hy2
    clear hl hput hy2
    by_cases hlt : 127 < y
    · have ho := put_or y
      have HO := Lib.hid ho
      clear ho
      go_wp2_with fail
      rw [HO.out]
      refine (bld_writeByte _ _ _ _ (by omega) _ hb hl2).mono ?_
      rintro e w' ⟨rfl, hb2, hbel2⟩
      go_wp2_with fail
      have hm0 : m ≠ 0 := by
        rintro rfl
        have := HY2.out
        simp only [Nat.reduceAdd, Nat.reduceMul, Nat.reducePow] at this
        omega
      go_roundw
      case rel =>
        obtain ⟨m, rfl⟩ : ∃ k, m = k + 1 := ⟨m - 1, by omega⟩
        refine ⟨m, y / 128, l ++ [UInt8.ofNat (y % 128 + 128)], by push_cast; rfl, by omega, by omega, ?_, by have := HL.out; simp; omega, ?_, hb2, hbel.trans hbel2⟩
        · have := HY2.out
          rw [show 7 * (m + 1 + 1) = 7 * (m + 1) + 7 by omega, Nat.pow_add] at this
          omega
        · rw [← HP.out, putF_more (m := m + 1) (by omega), List.append_assoc]; rfl
      case measure => simp [intOf]; omega
    · go_wp2_with fail
      refine (bld_writeByte _ _ _ _ (by omega) _ hb hl2).mono ?_
      rintro e w' ⟨rfl, hb2, hbel2⟩
      go_wp2_with (go_at_call 31; refine (bld_string _ _ _ _ hb2).mono ?_; rintro e w' ⟨rfl, hb3⟩)
      go_ret
      exact ⟨by rw [← HP.out, putF_last (by omega)]; rfl, (hbel.trans hbel2).trans hb3⟩

theorem str_append (s t : List UInt8) : (⟨s.toArray⟩ : ByteArray) ++ (⟨t.toArray⟩ : ByteArray) = ⟨(s ++ t).toArray⟩ := by
  apply ByteArray.ext
  simp

theorem str_extract (s : ByteArray) (k n : Nat) : s.extract k (k + n) = ⟨((s.data.toList.drop k).take n).toArray⟩ := by
  apply ByteArray.ext
  simp [← Array.toList_inj, List.take_drop, Nat.add_comm]
theorem takeText_err {l : List UInt8} {n k e : Nat} (h : takeV l = (n, k, e)) (he : e ≠ 0) : takeText l = ([], 0, e) := by
  unfold takeText; rw [h]; simp only; rw [if_pos he]
theorem takeText_range {l : List UInt8} {n k : Nat} (h : takeV l = (n, k, 0)) (hn : 65536 < n) : takeText l = ([], 0, 4) := by
  unfold takeText; rw [h]; simp only; rw [if_neg (by simp), if_pos hn]
theorem takeText_short {l : List UInt8} {n k : Nat} (h : takeV l = (n, k, 0)) (hn : ¬ 65536 < n) (hs : l.length - k < n) : takeText l = ([], 0, 1) := by
  unfold takeText; rw [h]; simp only; rw [if_neg (by simp), if_neg hn, if_pos hs]
theorem takeText_good {l : List UInt8} {n k : Nat} (h : takeV l = (n, k, 0)) (hn : ¬ 65536 < n) (hs : ¬ l.length - k < n) : takeText l = ((l.drop k).take n, k + n, 0) := by
  unfold takeText; rw [h]; simp only; rw [if_neg (by simp), if_neg hn, if_neg hs]

theorem putText_any (s : ByteArray) (w : World) (hs : s.size ≤ 9223372036854775797) :
    Calls Try.prog 18 #[.string s] w fun e w' => e = .returned (.string ⟨(putText s.data.toList).toArray⟩) ∧ Below w.heap.size w w' := by
  by_cases hl : 65536 < s.size
  · have hp : putText s.data.toList = [] := by unfold putText; rw [if_pos (by simpa using hl)]
    have HP := Lib.hid hp
    clear hp
    go_enter Try.func18, Try.ntmps18
    go_wp2
    go_ret
    exact ⟨by rw [HP.out]; rfl, Below.refl _ _⟩
  · have hp : putText s.data.toList = putV s.size ++ s.data.toList := by unfold putText; rw [if_neg (by simpa using hl)]; simp
    have HP := Lib.hid hp
    have hv := putV_length s.size
    clear hp
    go_enter Try.func18, Try.ntmps18
    go_wp2_with fail
    refine (put_any _ _ (by omega)).mono ?_
    rintro e w' ⟨rfl, hb⟩
    go_wp2
    go_ret
    refine ⟨?_, hb⟩
    rw [HP.out, ← str_append]
    rfl

theorem takeText_any (s : ByteArray) (w : World) (hs : s.size ≤ 9223372036854775807) :
    Calls Try.prog 57 #[.string s] w fun e w' => e = .returned (.tuple #[.string ⟨(takeText s.data.toList).1.toArray⟩, .int .i64 (takeText s.data.toList).2.1, .int .i64 (takeText s.data.toList).2.2]) ∧ Below w.heap.size w w' := by
  have hok := takeV_ok s.data.toList
  obtain ⟨n, k, e, ht⟩ : ∃ n k e, takeV s.data.toList = (n, k, e) := ⟨_, _, _, rfl⟩
  rw [ht] at hok
  obtain ⟨h1, h2, h3, h4⟩ := hok
  simp only at h1 h2 h4
  have HTK : Hid (∀ W : World, Calls Try.prog 67 #[.string s] W fun e' w' => e' = .returned (.tuple #[.int .u64 n, .int .i64 k, .int .i64 e]) ∧ Below W.heap.size W w') := fun W => (take_any s W).mono fun e' w' ⟨h, hb⟩ => ⟨by rw [h, ht], hb⟩
  have H3 := Lib.hid h3
  have HT := Lib.hid ht
  clear h3 ht
  by_cases he : e = 0
  · obtain ⟨hk0, hkl⟩ := H3.out he
    have hkl' : k ≤ s.size := by simpa using hkl
    subst he
    clear hkl H3
    by_cases hn : 65536 < n
    · have HD := Lib.hid (takeText_range HT.out hn)
      go_enter Try.func57, Try.ntmps57
      go_wp2_with fail
      refine (HTK.out _).mono ?_
      rintro e w' ⟨rfl, hb⟩
      go_wp2
      go_ret3
      exact ⟨by rw [HD.out]; rfl, hb⟩
    · by_cases hsn : s.size - k < n
      · have HD := Lib.hid (takeText_short HT.out hn (by simpa using hsn))
        go_enter Try.func57, Try.ntmps57
        go_wp2_with fail
        refine (HTK.out _).mono ?_
        rintro e w' ⟨rfl, hb⟩
        go_wp2
        go_ret3
        exact ⟨by rw [HD.out]; rfl, hb⟩
      · have HD := Lib.hid (takeText_good HT.out hn (by simpa using hsn))
        have hx := str_extract s k n
        have HX := Lib.hid hx
        clear hx
        go_enter Try.func57, Try.ntmps57
        go_wp2_with fail
        refine (HTK.out _).mono ?_
        rintro e w' ⟨rfl, hb⟩
        go_wp2
        go_ret3
        refine ⟨?_, hb⟩
        rw [HD.out]
        simp only [← HX.out]
        rfl
  · have HD := Lib.hid (takeText_err HT.out he)
    have hne : ((e : Int) != 0) = true := by simp; omega
    go_enter Try.func57, Try.ntmps57
    go_wp2_with fail
    refine (HTK.out _).mono ?_
    rintro e w' ⟨rfl, hb⟩
    go_wp2
    go_ret3
    exact ⟨by rw [HD.out]; rfl, hb⟩

end Go.Proofs.Ytaalhhgjliofaaa
