/- The program's frames, one behind the other, as an iterator (silo/frame). -/
import Derived.Test.YtaalhhgjliofaaaFrm
import Derived.Test.YtaalhhgjliofaaaVar
set_option linter.unusedVariables false
set_option linter.unusedSimpArgs false
set_option maxRecDepth 100000
namespace Go.Proofs.Ytaalhhgjliofaaa
open Go.RowKit Go.Shelf
attribute [local go_sem] Oper.semAt_some

def encF (x : List UInt8 × Nat) : Array Value := #[.string ⟨x.1.toArray⟩, .int .i64 x.2]

theorem str_from (s : ByteArray) (k : Nat) : (s.extract k s.size).data.toList = s.data.toList.drop k := by
  rw [ByteArray.data_extract, Array.toList_extract, List.extract]
  rw [List.take_of_length_le (by simp)]

theorem frames_iter (b : Nat) (s : ByteArray) (hs : s.size ≤ 9223372036854775797) :
    Iter Try.prog 46 #[.pointer (some ⟨b, 0, none⟩)] encF (allL s.data.toList) (Held b 9 (.string s)) := by
  intro n0 l J Jx M W ⟨hbox, hMb⟩ hJ hJx hY h0 hM
  refine callsIn_of_wp Try.func46 rfl trivial ?_ rfl
  simp only [Try.ntmps46, List.size_toArray, List.length_cons, List.length_nil, Nat.reduceAdd, Nat.reduceSub, Array.replicate_succ, Array.replicate_zero, List.push_toArray, List.append_toArray, List.nil_append, List.cons_append]
  gi_wp2
  have hl0 : s.data.toList.length = s.size := by simp
  obtain ⟨L, hL0⟩ : ∃ L, L = s.data.toList := ⟨_, rfl⟩
  gi_loopw [3] (fun i wr => ∃ (k f : Nat) (M' : Nat → Prop) (pre rest : List (List UInt8 × Nat)), k ≤ s.size ∧ i = .int .i64 k ∧ allL s.data.toList = pre ++ rest ∧ rest = allF f k (s.data.toList.drop k) ∧ s.size - k < f ∧ J M' pre wr ∧ (∀ k, M' k → k < wr.heap.size) ∧ Boxed wr b 9 (.string s) ∧ ¬ M' b)
    (fun i _ => s.size - (intOf i).toNat)
  case atStart => exact ⟨0, s.size + 1, M, [], _, by omega, rfl, rfl, by show _ = allF (s.size + 1) 0 (s.data.toList.drop 0); rw [← hl0]; rfl, by omega, h0, hM, hbox, hMb⟩
  case round =>
    obtain ⟨k, f, M1, pre, rest, hk, rfl, hL, hrest, hf, hJ1, hM1, hbox1, hMb1⟩ := hrel
    have hc1 := hbox1.cell
    by_cases hlt : k < s.size
    · have hdrop := str_from s k
      have hxs : (s.extract k s.size).size ≤ 9223372036854775797 := by simp; omega
      have hok := openL_ok (s.data.toList.drop k)
      obtain ⟨t, n, e, ho⟩ : ∃ t n e, openL (s.data.toList.drop k) = (t, n, e) := ⟨_, _, _, rfl⟩
      have HO : Hid (∀ W : World, Calls Try.prog 47 #[.string (s.extract k s.size)] W fun e' w' => e' = .returned (.tuple #[.string ⟨t.toArray⟩, .int .i64 n, .int .i64 e]) ∧ Below W.heap.size W w') := fun W => by
        have := open_any (s.extract k s.size) W hxs
        rw [hdrop, ho] at this
        exact this
      rw [ho] at hok
      simp only at hok
      have hd1 : decide ((k : Int) < (s.size : Int)) = true := decide_eq_true (by omega)
      clear hdrop hxs
      obtain ⟨f, rfl⟩ : ∃ g, f = g + 1 := ⟨f - 1, by omega⟩
      by_cases he : e = 0
      · subst he
        obtain ⟨hn4, hnl⟩ := hok.2.1 rfl
        have hnk : k + n ≤ s.size := by simp at hnl; omega
        clear hok hnl
        have hne : (((0 : Nat) : Int) != 0) = false := rfl
        have hr2 : rest = (t, k + n) :: allF f (k + n) (s.data.toList.drop (k + n)) := by
          rw [hrest, allF_step (by intro h; have := congrArg List.length h; simp at this; omega) ho, List.drop_drop]
        have hw : IntKind.i64.wrap ((k : Int) + n) = (k : Int) + n := IntWalk.i64_in _ (by omega)
        have HR := Lib.hid hr2
        have HLL := Lib.hid hL
        clear hr2 hrest hL
        gi_wp2
        refine ⟨trivial, rfl, (callsIn_wide.2 (HO.out _)).mono ?_⟩
        rintro e w' ⟨rfl, hb⟩
        have hb' : Same (fun k => k < n0 ∨ M1 k) wr w' := ⟨hb.os, hb.tape, hb.output, hb.size, fun k _ hl => hb.block k hl⟩
        have hM2 : ∀ k, M1 k → k < w'.heap.size := fun k hk => Nat.lt_of_lt_of_le (hM1 k hk) hb.size
        obtain ⟨fn, tmps, assign, body, hy, hR⟩ := hY M1 pre _ _ w' (by rw [HLL.out, HR.out]) (hJ _ _ _ _ hJ1 hb') hM2
        have hbox2 : Boxed w' b 9 (.string s) := (hb.block b hbox1.lt).trans hbox1
        dsimp only [encF] at hy
        push_cast at hy
        clear hc1
        have hc1 := hbox2.cell
        gi_wp2
        refine ⟨rfl, hR.mono ?_⟩
        rintro e W3 ⟨M3, hN3, hMo3, ⟨rfl, hJ3⟩ | ⟨rfl, hJx3⟩⟩
        · gi_wp2
          go_roundw
          case rel =>
            refine ⟨k + n, f, M3, _, allF f (k + n) (s.data.toList.drop (k + n)), hnk, by go_num, ?_, rfl, by omega, hJ3, fun j hj => (hN3 j hj).1, boxed_same hbox2 hMo3 hMb1, fun h => hMb1 ((hN3 b h).2 hbox2.lt)⟩
            rw [HLL.out, HR.out, List.append_assoc]; rfl
          case measure => simp [intOf]; omega
        · gi_wp2
          refine bodyPost_ret (results_none rfl _ _ _) rfl ?_
          exact ⟨⟨_, rfl⟩, M3, .inr ⟨pre, _, _, by rw [HLL.out, HR.out], hJx3⟩⟩
      · have hne : ((e : Int) != 0) = true := by simp; omega
        have hn0 : n = 0 := (hok.2.2 he).1
        subst hn0
        have hr2 : rest = [] := by rw [hrest, allF_stop ho he]
        have hw : IntKind.i64.wrap ((k : Int) + ((0 : Nat) : Int)) = (k : Int) + ((0 : Nat) : Int) := IntWalk.i64_in _ (by omega)
        have HLL := Lib.hid hL
        clear hrest hL hok
        gi_wp2
        refine ⟨trivial, rfl, (callsIn_wide.2 (HO.out _)).mono ?_⟩
        rintro e w' ⟨rfl, hb⟩
        have hb' : Same (fun k => k < n0 ∨ M1 k) wr w' := ⟨hb.os, hb.tape, hb.output, hb.size, fun k _ hl => hb.block k hl⟩
        have hJ2 := hJ _ _ _ _ hJ1 hb'
        gi_wp2
        refine ⟨by simp, ?_⟩
        gi_wp2
        refine bodyPost_ret (results_none rfl _ _ _) rfl ?_
        exact ⟨⟨_, rfl⟩, M1, .inl (by rw [HLL.out, hr2, List.append_nil]; exact hJ2)⟩
    · have hd1 : decide ((k : Int) < (s.size : Int)) = false := decide_eq_false (by omega)
      have hr0 : rest = [] := by
        rw [hrest, List.drop_eq_nil_of_le (by simp; omega), allF_nil]
      gi_wp2
      go_end0
      exact ⟨⟨_, rfl⟩, M1, .inl (by rw [hL, hr0, List.append_nil]; exact hJ1)⟩

theorem all_any (s : ByteArray) (w : World) :
    Calls Try.prog 28 #[.string s] w fun e w' => e = .returned (.func (.func 46) #[] #[.pointer (some ⟨w.heap.size, 0, none⟩)]) ∧ w.alloc (.cells #[.string s] 9) = w' := by
  have hmf : ∀ (fn : Fn) (first cap : Array Value) (w : World), (Instr.makeFunc fn first cap).run Try.prog w = .ok (.func fn first cap) w := fun _ _ _ _ => rfl
  go_enter Try.func28, Try.ntmps28
  go_wp2
  go_ret
  exact ⟨rfl, rfl⟩

end Go.Proofs.Ytaalhhgjliofaaa
