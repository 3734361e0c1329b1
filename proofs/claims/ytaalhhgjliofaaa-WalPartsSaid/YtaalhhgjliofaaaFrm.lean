/- Contracts of the program's frames (silo/frame). -/
import Derived.Test.YtaalhhgjliofaaaPFrm
import Derived.Test.YtaalhhgjliofaaaTxt
import Derived.Test.YtaalhhgjliofaaaCrc
import Derived.Test.YtaalhhgjliofaaaRel
set_option linter.unusedVariables false
set_option linter.unusedSimpArgs false
set_option maxRecDepth 100000
namespace Go.Proofs.Ytaalhhgjliofaaa
open Go.RowKit Go.Shelf

theorem wrap_any (s : ByteArray) (w : World) (hs : s.size ≤ 9223372036854775797) :
    Calls Try.prog 11 #[.string s] w fun e w' => e = .returned (.string ⟨(wrapL s.data.toList).toArray⟩) ∧ Below w.heap.size w w' := by
  have hl := putText_len s.data.toList
  obtain ⟨t, ht⟩ : ∃ t, t = putText s.data.toList := ⟨_, rfl⟩
  have HP : Hid (∀ W : World, Calls Try.prog 18 #[.string s] W fun e w' => e = .returned (.string ⟨t.toArray⟩) ∧ Below W.heap.size W w') := fun W => by rw [ht]; exact putText_any s W hs
  have HW : Hid (wrapL s.data.toList = if t = [] then [] else t ++ crcBytes (crcSum t)) := by rw [ht]; rfl
  rw [← ht] at hl
  clear ht
  by_cases h0 : t = []
  · subst h0
    go_enter Try.func11, Try.ntmps11
    go_wp2_with fail
    refine (HP.out _).mono ?_
    rintro e w' ⟨rfl, hb⟩
    go_wp2_with fail
    go_ret
    exact ⟨by rw [HW.out]; rfl, hb⟩
  · have hne : t.isEmpty = false := by simpa using h0
    have hz : (⟨t.toArray⟩ : ByteArray).size ≤ 9223372036854775807 := by show t.toArray.size ≤ _; simp; omega
    have hc := crcSum_lt t
    have HA := Lib.hid (str_append t (crcBytes (crcSum t)))
    go_enter Try.func11, Try.ntmps11
    go_wp2_with fail
    refine (HP.out _).mono ?_
    rintro e w' ⟨rfl, hb⟩
    go_wp2_with fail
    refine (crc_sum _ _ hz).mono ?_
    rintro e w1 ⟨rfl, rfl⟩
    go_wp2_with fail
    refine (crc_bytes _ _ hc).mono ?_
    rintro e w2 ⟨rfl, hb2⟩
    have hsz1 : (⟨t.toArray⟩ : ByteArray).size = t.length := by show t.toArray.size = _; simp
    have hsz2 : (⟨(crcBytes (crcSum t)).toArray⟩ : ByteArray).size = 4 := rfl
    go_wp2_with fail
    go_ret
    refine ⟨?_, hb.trans (hb2.mono hb.size)⟩
    rw [HW.out, if_neg h0, ← HA.out]
    rfl

theorem toList_mk (l : List UInt8) : (⟨l.toArray⟩ : ByteArray).toList = l := by
  rw [Go.ByteArray.toList_eq]
set_option maxHeartbeats 1000000 in
theorem open_any (s : ByteArray) (w : World) (hs : s.size ≤ 9223372036854775797) :
    Calls Try.prog 47 #[.string s] w fun e w' => e = .returned (.tuple #[.string ⟨(openL s.data.toList).1.toArray⟩, .int .i64 (openL s.data.toList).2.1, .int .i64 (openL s.data.toList).2.2]) ∧ Below w.heap.size w w' := by
  have hok := takeText_ok s.data.toList
  obtain ⟨t, n, e, ht⟩ : ∃ t n e, takeText s.data.toList = (t, n, e) := ⟨_, _, _, rfl⟩
  rw [ht] at hok
  obtain ⟨h1, h2, h3⟩ := hok
  simp only at h1
  have HTK : Hid (∀ W : World, Calls Try.prog 57 #[.string s] W fun e' w' => e' = .returned (.tuple #[.string ⟨t.toArray⟩, .int .i64 n, .int .i64 e]) ∧ Below W.heap.size W w') := fun W => (takeText_any s W (by omega)).mono fun e' w' ⟨h, hb⟩ => ⟨by rw [h, ht], hb⟩
  have H2 := Lib.hid h2
  have HT := Lib.hid ht
  clear h2 h3 ht
  by_cases he : e = 0
  · subst he
    obtain ⟨hn0, hnl, htl⟩ := H2.out rfl
    simp only at hn0 hnl htl
    have hnl' : n ≤ s.size := by simpa using hnl
    clear hnl H2
    by_cases hsh : s.size < n + 4
    · have HD : Hid (openL s.data.toList = ([], 0, 1)) := by
        unfold openL; rw [HT.out]; simp only; rw [if_neg (by simp), if_pos (by simpa using hsh)]; exact rfl
      go_enter Try.func47, Try.ntmps47
      go_wp2_with fail
      refine (HTK.out _).mono ?_
      rintro e w' ⟨rfl, hb⟩
      go_wp2_with fail
      go_ret3
      exact ⟨by rw [HD.out]; rfl, hb⟩
    · go_enter Try.func47, Try.ntmps47
      go_wp2_with fail
      refine (HTK.out _).mono ?_
      rintro e w' ⟨rfl, hb⟩
      go_wp2_with fail
      have e1 : IntKind.i64.wrap ((n : Int) + 4) = (n : Int) + 4 := IntWalk.i64_in _ (by omega)
      have e2 : 0 ≤ (n : Int) + 4 := by omega
      have e3 : ((n : Int) + 4).toNat = n + 4 := by omega
      have e4 : (n : Int) ≤ (n : Int) + 4 := by omega
      have e5 : (n : Int) + 4 ≤ (s.size : Int) := by omega
      have e6 : (n : Int) ≤ (s.size : Int) := by omega
      have hz : (s.extract 0 n).size ≤ 9223372036854775807 := by simp; omega
      apply wp_rel (R := fun w1 => Below w'.heap.size w' w1)
      case h =>
        go_region_with (first | (go_at_call 20; refine (crc_sum _ _ hz).mono ?_; rintro e w1 ⟨rfl, rfl⟩) | (go_at_call 19; refine (crc_bytes _ _ (crcSum_lt _)).mono ?_; rintro e w2 ⟨rfl, hb2⟩))
        all_goals go_simp
        all_goals exact ⟨rfl, (Below.drew (Below.refl w'.heap.size w')).trans hb2⟩
      intro w2 hb2
      clear e1 e2 e3 e4 e5 e6
      have hxl : (s.extract n (n + 4)).toList = (s.data.toList.drop n).take 4 := by rw [str_extract]; exact toList_mk _
      have HD : Hid (openL s.data.toList = if (!(crcBytes (crcSum (s.data.toList.take n)) == (s.extract n (n + 4)).toList)) = true then ([], 0, 3) else (t, n + 4, 0)) := by
        unfold openL; rw [HT.out, hxl]; simp only; rw [if_neg (by simp), if_neg (by simpa using hsh)]
        by_cases hsum : crcBytes (crcSum (s.data.toList.take n)) = (s.data.toList.drop n).take 4
        · rw [if_neg (by simpa using hsum), if_neg (by simpa using hsum)]; rfl
        · rw [if_pos (by simpa using hsum), if_pos (by simpa using hsum)]; rfl
      clear hxl
      go_wp2_with fail
      · go_ret3
        exact ⟨by rw [HD.out, if_pos (by assumption)]; rfl, hb.trans (hb2.mono hb.size)⟩
      · go_ret3
        exact ⟨by rw [HD.out, if_neg (by rw [‹(!_) = false›]; simp)]; rfl, hb.trans (hb2.mono hb.size)⟩
  · have HD : Hid (openL s.data.toList = ([], 0, e)) := by
      unfold openL; rw [HT.out]; simp only; rw [if_pos he]; exact rfl
    have hne : ((e : Int) != 0) = true := by simp; omega
    go_enter Try.func47, Try.ntmps47
    go_wp2_with fail
    refine (HTK.out _).mono ?_
    rintro e w' ⟨rfl, hb⟩
    go_wp2_with fail
    go_ret3
    exact ⟨by rw [HD.out]; rfl, hb⟩

end Go.Proofs.Ytaalhhgjliofaaa
