/- Contracts of the program's numbers of as many bytes as they need (silo/varint). -/
import Derived.Test.YtaalhhgjliofaaaProg
import Derived.Test.YtaalhhgjliofaaaPVar
import Derived.Test.YtaalhhgjliofaaaBld
import Derived.Test.YtaalhhgjliofaaaIter
set_option linter.unusedVariables false
set_option linter.unusedSimpArgs false
set_option maxRecDepth 100000
namespace Go.Proofs.Ytaalhhgjliofaaa
open Go.RowKit Go.Shelf
attribute [local go_sem] Oper.semAt_some

/-- A captured variable's box, which the caller doesn't write. -/
def Held (b : Nat) (t : TypeId) (v : Value) : Nat → (Nat → Prop) → World → Prop := fun _ M W => Boxed W b t v ∧ ¬ M b

def encG (g : Nat × Bool) : Array Value := #[.int .u64 g.1, .bool g.2]

theorem groups_iter (b : Nat) (s : ByteArray) :
    Iter Try.prog 84 #[.pointer (some ⟨b, 0, none⟩)] encG (grp 10 s.data.toList) (Held b 9 (.string s)) := by
  intro n0 l J Jx M W ⟨hbox, hMb⟩ hJ hJx hY h0 hM
  refine callsIn_of_wp Try.func84 rfl trivial ?_ rfl
  simp only [Try.ntmps84, List.size_toArray, List.length_cons, List.length_nil, Nat.reduceAdd, Nat.reduceSub, Array.replicate_succ, Array.replicate_zero, List.push_toArray, List.append_toArray, List.nil_append, List.cons_append]
  have hc := hbox.cell
  gi_wp2
  rw [show (min (s.size : Int) 10) = ((min s.size 10 : Nat) : Int) from by omega]
  have hm1 : min s.size 10 ≤ s.size := by omega
  have hm2 : min s.size 10 ≤ 10 := by omega
  obtain ⟨m, hm⟩ : ∃ m, m = min s.size 10 := ⟨_, rfl⟩
  rw [← hm] at hm1 hm2 ⊢
  have HM := Lib.hid hm
  clear hm hc
  gi_loopw [8] (fun i wr => ∃ (k : Nat) (M' : Nat → Prop) (pre rest : List (Nat × Bool)), k ≤ m ∧ i = .int .i64 k ∧ grp 10 s.data.toList = pre ++ rest ∧ rest = grp (10 - k) (s.data.toList.drop k) ∧ J M' pre wr ∧ (∀ k, M' k → k < wr.heap.size) ∧ Boxed wr b 9 (.string s) ∧ ¬ M' b)
    (fun i _ => m - (intOf i).toNat)
  case atStart => exact ⟨0, M, [], _, by omega, rfl, rfl, rfl, h0, hM, hbox, hMb⟩
  case round =>
    obtain ⟨k, M1, pre, rest, hk, rfl, hL, hrest, hJ1, hM1, hbox1, hMb1⟩ := hrel
    have hc1 := hbox1.cell
    by_cases hlt : k < m
    · have hks : k < s.size := by omega
      have hkl : k < s.data.toList.length := by simpa using hks
      have hr2 : rest = (s[k].toNat % 128, decide (s[k].toNat < 128)) :: (if s[k].toNat < 128 then [] else grp (9 - k) (s.data.toList.drop (k + 1))) := by
        rw [hrest, drop_cons _ _ hkl, show 10 - k = (9 - k) + 1 by omega, grp_cons]; rfl
      obtain ⟨fn, tmps, assign, body, hy, hR⟩ := hY M1 pre _ _ wr (by rw [hL, hr2]) hJ1 hM1
      have HR := Lib.hid hr2
      have HRe := Lib.hid hrest
      have HLL := Lib.hid hL
      clear hr2 hrest hL
      have hb127 := u8_and127 s[k]
      dsimp only [encG] at hy
      push_cast at hy
      by_cases hc128 : s[k].toNat < 128
      · have hd : decide (s[k].toNat < 128) = true := by simpa using hc128
        rw [hd] at hy hR
        have HR2 := Lib.hid (show rest = [(s[k].toNat % 128, true)] by rw [HR.out, hd, if_pos hc128])
        clear hd
        have hdi : decide ((s[k].toNat : Int) < 128) = true := decide_eq_true (by omega)
        gi_wp2
        refine ⟨rfl, hR.mono ?_⟩
        rintro e W3 ⟨M3, hN3, hMo3, ⟨rfl, hJ3⟩ | ⟨rfl, hJx3⟩⟩
        · gi_wp2
          refine bodyPost_ret (results_none rfl _ _ _) rfl ?_
          exact ⟨⟨_, rfl⟩, M3, .inl (by rw [HLL.out, HR2.out]; exact hJ3)⟩
        · gi_wp2
          refine bodyPost_ret (results_none rfl _ _ _) rfl ?_
          exact ⟨⟨_, rfl⟩, M3, .inr ⟨pre, _, [], by rw [HLL.out, HR2.out], hJx3⟩⟩
      · have hd : decide (s[k].toNat < 128) = false := by simpa using hc128
        rw [hd] at hy hR
        have HR2 := Lib.hid (show rest = (s[k].toNat % 128, false) :: grp (9 - k) (s.data.toList.drop (k + 1)) by rw [HR.out, hd, if_neg hc128])
        clear hd
        have hdi : decide ((s[k].toNat : Int) < 128) = false := decide_eq_false (by omega)
        gi_wp2
        refine ⟨rfl, hR.mono ?_⟩
        rintro e W3 ⟨M3, hN3, hMo3, ⟨rfl, hJ3⟩ | ⟨rfl, hJx3⟩⟩
        · gi_wp2
          go_roundw
          case rel =>
            refine ⟨k + 1, M3, _, grp (9 - k) (s.data.toList.drop (k + 1)), by omega, by go_num, ?_, by rw [show 10 - (k + 1) = 9 - k by omega], hJ3, fun j hj => (hN3 j hj).1, boxed_same hbox1 hMo3 hMb1, fun h => hMb1 ((hN3 b h).2 hbox1.lt)⟩
            rw [HLL.out, HR2.out, List.append_assoc]; rfl
          case measure => simp [intOf]; omega
        · gi_wp2
          refine bodyPost_ret (results_none rfl _ _ _) rfl ?_
          exact ⟨⟨_, rfl⟩, M3, .inr ⟨pre, _, _, by rw [HLL.out, HR2.out], hJx3⟩⟩
    · gi_wp2
      go_end0
      have hkm : k = m := by omega
      have hr0 : rest = [] := by
        rw [hrest]
        by_cases h10 : k = 10
        · rw [h10]; rfl
        · have := HM.out
          rw [List.drop_eq_nil_of_le (by simp; omega), grp_nil]
      exact ⟨⟨_, rfl⟩, M1, .inl (by rw [hL, hr0, List.append_nil]; exact hJ1)⟩

theorem groups_any (s : ByteArray) (w : World) :
    Calls Try.prog 77 #[.string s] w fun e w' => e = .returned (.func (.func 84) #[] #[.pointer (some ⟨w.heap.size, 0, none⟩)]) ∧ w.alloc (.cells #[.string s] 9) = w' := by
  have hmf : ∀ (fn : Fn) (first cap : Array Value) (w : World), (Instr.makeFunc fn first cap).run Try.prog w = .ok (.func fn first cap) w := fun _ _ _ _ => rfl
  go_enter Try.func77, Try.ntmps77
  go_wp2
  go_ret
  exact ⟨rfl, rfl⟩

/-- Between two rounds of Take. -/
def TakeI (w : World) (C : Nat → Prop) (pre : List (Nat × Bool)) (W : World) : Prop :=
  (∀ k, C k ↔ w.heap.size ≤ k ∧ k < w.heap.size + 5) ∧ Below w.heap.size w W ∧
  ∃ n : Nat, (∀ rest, runG 0 0 (pre ++ rest) = runG pre.length n rest) ∧ n < 2 ^ (7 * pre.length) ∧
    Boxed W w.heap.size 72 (.int .u64 0) ∧ Boxed W (w.heap.size + 1) 3 (.int .i64 0) ∧ Boxed W (w.heap.size + 1 + 1) 29 (.int .i64 0) ∧
    Boxed W (w.heap.size + 1 + 1 + 1) 72 (.int .u64 n) ∧ Boxed W (w.heap.size + 1 + 1 + 1 + 1) 3 (.int .i64 pre.length)
/-- A round of Take has returned. -/
def TakeX (w : World) (c : Code) (C : Nat → Prop) (pre : List (Nat × Bool)) (W : World) : Prop :=
  c = .ret ∧ (∀ k, C k ↔ w.heap.size ≤ k ∧ k < w.heap.size + 5) ∧ Below w.heap.size w W ∧
  ∃ t : Nat × Nat × Nat, (∀ rest, runG 0 0 (pre ++ rest) = t) ∧
    Boxed W w.heap.size 72 (.int .u64 t.1) ∧ Boxed W (w.heap.size + 1) 3 (.int .i64 t.2.1) ∧ Boxed W (w.heap.size + 1 + 1) 29 (.int .i64 t.2.2)

theorem TakeI.stable (w : World) : Stable w.heap.size (TakeI w) := by
  rintro M s A B ⟨hC, hb, n, hr, hn, b0, b1, b2, b3, b4⟩ hs
  exact ⟨hC, below_same hb hs (Nat.le_refl _), n, hr, hn, boxed_same b0 hs (.inr ((hC _).2 (by omega))), boxed_same b1 hs (.inr ((hC _).2 (by omega))), boxed_same b2 hs (.inr ((hC _).2 (by omega))), boxed_same b3 hs (.inr ((hC _).2 (by omega))), boxed_same b4 hs (.inr ((hC _).2 (by omega)))⟩
theorem TakeX.stable (w : World) (c : Code) : Stable w.heap.size (TakeX w c) := by
  rintro M s A B ⟨hc, hC, hb, t, hr, b0, b1, b2⟩ hs
  exact ⟨hc, hC, below_same hb hs (Nat.le_refl _), t, hr, boxed_same b0 hs (.inr ((hC _).2 (by omega))), boxed_same b1 hs (.inr ((hC _).2 (by omega))), boxed_same b2 hs (.inr ((hC _).2 (by omega)))⟩

/-- Behind a round that goes on. -/
theorem take_more {w W : World} {C : Nat → Prop} {pre : List (Nat × Bool)} {n i g : Nat} {u : Int} (hC : ∀ k, C k ↔ w.heap.size ≤ k ∧ k < w.heap.size + 5) (hCW : ∀ k, C k → k < W.heap.size) (hb : Below w.heap.size w W)
    (hrun : ∀ rest, runG 0 0 (pre ++ rest) = runG i n rest) (hn : n < 2 ^ (7 * i)) (hi : pre.length = i) (h9 : i ≤ 9) (h9' : i ≠ 9) (hg : g < 128)
    (b0 : Boxed W w.heap.size 72 (.int .u64 0)) (b1 : Boxed W (w.heap.size + 1) 3 (.int .i64 0)) (b2 : Boxed W (w.heap.size + 1 + 1) 29 (.int .i64 0))
    (b3 : Boxed W (w.heap.size + 1 + 1 + 1) 72 (.int .u64 n)) (b4 : Boxed W (w.heap.size + 1 + 1 + 1 + 1) 3 (.int .i64 i)) (hu : u = bits .or .u64 (n : Int) (IntKind.u64.wrap ((g : Int) * 2 ^ (7 * i)))) :
    ∃ C', New C C' W (((W.setCell ⟨w.heap.size + 1 + 1 + 1, 0, none⟩ (.int .u64 u)).setCell ⟨w.heap.size + 1 + 1 + 1 + 1, 0, none⟩ (.int .i64 ((i : Int) + 1))).drew) ∧
      Mods C W (((W.setCell ⟨w.heap.size + 1 + 1 + 1, 0, none⟩ (.int .u64 u)).setCell ⟨w.heap.size + 1 + 1 + 1 + 1, 0, none⟩ (.int .i64 ((i : Int) + 1))).drew) ∧
      TakeI w C' (pre ++ [(g, false)]) (((W.setCell ⟨w.heap.size + 1 + 1 + 1, 0, none⟩ (.int .u64 u)).setCell ⟨w.heap.size + 1 + 1 + 1 + 1, 0, none⟩ (.int .i64 ((i : Int) + 1))).drew) := by
  obtain ⟨h1, h2, h3⟩ := take_bound h9 hn hg (fun h => absurd h h9')
  rw [take_or h1 hn h2] at hu
  have hm : Mods C W (((W.setCell ⟨w.heap.size + 1 + 1 + 1, 0, none⟩ (.int .u64 u)).setCell ⟨w.heap.size + 1 + 1 + 1 + 1, 0, none⟩ (.int .i64 ((i : Int) + 1))).drew) :=
    ((Mods.setCell W (fun _ => (hC _).2 (by simp; omega)) _).trans (Mods.setCell _ (fun _ => (hC _).2 (by simp; omega)) _)).trans (Mods.drew _ _)
  refine ⟨C, New.refl hCW hm.size, hm, hC, below_mods hb hm (Nat.le_refl _) (fun k hk => ((hC k).1 hk).1), n + g * 2 ^ (7 * i), fun rest => ?_, ?_, ?_, ?_, ?_, ?_, ?_⟩
  · rw [List.append_assoc, hrun]
    simp only [List.singleton_append, List.length_append, List.length_cons, List.length_nil, hi]
    exact runG_inl (stepG_more h9') rest
  · simpa [hi] using h3
  · exact boxed_drew ((b0.other (by omega) _).other (by omega) _)
  · exact boxed_drew ((b1.other (by omega) _).other (by omega) _)
  · exact boxed_drew ((b2.other (by omega) _).other (by omega) _)
  · exact boxed_drew ((boxed_set b3 (by rw [hu])).other (by omega) _)
  · exact boxed_drew (boxed_set (b4.other (by omega) _) (by simp [hi]))
/-- Behind a round that returns. -/
theorem take_ret {w W W' : World} {C : Nat → Prop} {pre : List (Nat × Bool)} {x : Nat × Bool} {n i : Nat} {t : Nat × Nat × Nat} (hC : ∀ k, C k ↔ w.heap.size ≤ k ∧ k < w.heap.size + 5) (hCW : ∀ k, C k → k < W.heap.size) (hb : Below w.heap.size w W)
    (hrun : ∀ rest, runG 0 0 (pre ++ rest) = runG i n rest) (hs : stepG i n x = .inr t) (hm : Mods C W W')
    (b0 : Boxed W' w.heap.size 72 (.int .u64 t.1)) (b1 : Boxed W' (w.heap.size + 1) 3 (.int .i64 t.2.1)) (b2 : Boxed W' (w.heap.size + 1 + 1) 29 (.int .i64 t.2.2)) :
    ∃ C', New C C' W W' ∧ Mods C W W' ∧ TakeX w .ret C' (pre ++ [x]) W' :=
  ⟨C, New.refl hCW hm.size, hm, rfl, hC, below_mods hb hm (Nat.le_refl _) (fun k hk => ((hC k).1 hk).1), t, fun rest => by
    rw [List.append_assoc, hrun]; exact runG_inr hs rest, b0, b1, b2⟩

theorem take_fin {w W : World} {C : Nat → Prop} {u0 u1 u2 u3 u4 v0 v1 v2 : Value} (hC : ∀ k, C k ↔ w.heap.size ≤ k ∧ k < w.heap.size + 5)
    (b0 : Boxed W w.heap.size 72 u0) (b1 : Boxed W (w.heap.size + 1) 3 u1) (b2 : Boxed W (w.heap.size + 1 + 1) 29 u2) :
    Mods C W (((((W.setCell ⟨w.heap.size + 1 + 1 + 1, 0, none⟩ u3).setCell ⟨w.heap.size + 1 + 1 + 1 + 1, 0, none⟩ u4).setCell ⟨w.heap.size, 0, none⟩ v0).setCell ⟨w.heap.size + 1, 0, none⟩ v1).setCell ⟨w.heap.size + 1 + 1, 0, none⟩ v2) ∧
    Boxed (((((W.setCell ⟨w.heap.size + 1 + 1 + 1, 0, none⟩ u3).setCell ⟨w.heap.size + 1 + 1 + 1 + 1, 0, none⟩ u4).setCell ⟨w.heap.size, 0, none⟩ v0).setCell ⟨w.heap.size + 1, 0, none⟩ v1).setCell ⟨w.heap.size + 1 + 1, 0, none⟩ v2) w.heap.size 72 v0 ∧
    Boxed (((((W.setCell ⟨w.heap.size + 1 + 1 + 1, 0, none⟩ u3).setCell ⟨w.heap.size + 1 + 1 + 1 + 1, 0, none⟩ u4).setCell ⟨w.heap.size, 0, none⟩ v0).setCell ⟨w.heap.size + 1, 0, none⟩ v1).setCell ⟨w.heap.size + 1 + 1, 0, none⟩ v2) (w.heap.size + 1) 3 v1 ∧
    Boxed (((((W.setCell ⟨w.heap.size + 1 + 1 + 1, 0, none⟩ u3).setCell ⟨w.heap.size + 1 + 1 + 1 + 1, 0, none⟩ u4).setCell ⟨w.heap.size, 0, none⟩ v0).setCell ⟨w.heap.size + 1, 0, none⟩ v1).setCell ⟨w.heap.size + 1 + 1, 0, none⟩ v2) (w.heap.size + 1 + 1) 29 v2 :=
  ⟨(((((Mods.setCell W (fun _ => (hC _).2 (by simp; omega)) _).trans (Mods.setCell _ (fun _ => (hC _).2 (by simp; omega)) _)).trans (Mods.setCell _ (fun _ => (hC _).2 (by simp)) _)).trans (Mods.setCell _ (fun _ => (hC _).2 (by simp)) _)).trans (Mods.setCell _ (fun _ => (hC _).2 (by simp; omega)) _)),
    ((boxed_set ((b0.other (by omega) _).other (by omega) _) rfl).other (by omega) _).other (by omega) _,
    (boxed_set (((b1.other (by omega) _).other (by omega) _).other (by omega) _) rfl).other (by omega) _,
    boxed_set ((((b2.other (by omega) _).other (by omega) _).other (by omega) _).other (by omega) _) rfl⟩

end Go.Proofs.Ytaalhhgjliofaaa
