/- The walk of the law WalParts: whatever comes in, it answers true. -/
import Derived.Test.YtaalhhgjliofaaaWalP
set_option linter.unusedVariables false
set_option linter.unusedSimpArgs false
set_option maxRecDepth 100000
namespace Go.Proofs.Ytaalhhgjliofaaa
open Go.RowKit Go.Shelf

theorem lightB_light {l : List (List UInt8)} (h : lightB l = true) : l.length ≤ 20 ∧ ∀ t ∈ l, t.length ≤ 300 := by
  unfold lightB at h
  simp only [Bool.and_eq_true, decide_eq_true_eq, List.all_eq_true] at h
  exact ⟨h.2, h.1⟩

theorem src_str {w : World} {S S' : Nat → Prop} {A : Option Addr} {ys : List (List UInt8)} (h : Src strR w S A ys) : Src strR w S' A ys := by
  obtain ⟨news, h1, h2⟩ := h
  refine ⟨news, ?_, h2⟩
  have e : strR = Rep.flat 1 (fun x => [strV x]) (fun _ => rfl) (fun x u hu => by simp at hu; subst hu; rfl) := rfl
  rw [e, chunks_flat] at h1 ⊢
  exact h1

set_option maxHeartbeats 4000000 in
theorem walParts_any (Sa Sb Sk : Nat → Prop) (va vb vk : Value) (a b : List (List UInt8)) (keep : List Bool) (w : World) (ha : Lst strR w Sa va a) (hb : Lst strR w Sb vb b) (hk : Lst boolR w Sk vk keep)
    (hSa : ∀ k, Sa k → k < w.heap.size) (hSb : ∀ k, Sb k → k < w.heap.size) (hSk : ∀ k, Sk k → k < w.heap.size) (hxa : ∀ t ∈ a, t.length ≤ 9223372036854775807) (hxb : ∀ t ∈ b, t.length ≤ 9223372036854775807) :
    Calls Try.prog 3 #[va, vb, vk] w fun e w' => e = .returned (.bool true) ∧ Below w.heap.size w w' := by
  obtain ⟨i0, hi0, hz0, hz1, hz2⟩ := info_parts infoString
  obtain ⟨A1, n1, c1, rfl, hn1, hc1, hm1⟩ := ha.form
  obtain ⟨A2, n2, c2, rfl, hn2, hc2, hm2⟩ := hb.form
  obtain ⟨A3, n3, c3, rfl, hn3, hc3, hm3⟩ := hk.form
  have H1 := Lib.hid hn1
  have H2 := Lib.hid hn2
  have H3 := Lib.hid hn3
  have HA := Lib.hid ha
  have HB := Lib.hid hb
  have HK := Lib.hid hk
  clear hn1 hn2 hn3 ha hb hk
  cases hla : lightB a with
  | false =>
    have HLA := Lib.hid (light_any Sa _ a w HA.out hSa hxa)
    rw [hla] at HLA
    go_enter Try.func3, Try.ntmps3
    go_wp2_with fail
    refine HLA.out.mono ?_
    rintro e w' ⟨rfl, rfl⟩
    go_wp2_with fail
    refine (awake16_any w).mono ?_
    rintro e w' ⟨rfl, hb'⟩
    go_wp2_with fail
    go_ret
    exact ⟨rfl, hb'⟩
  | true =>
    have HLA := Lib.hid (light_any Sa _ a w HA.out hSa hxa)
    rw [hla] at HLA
    cases hlb : lightB b with
    | false =>
      have HLB := Lib.hid (light_any Sb _ b w HB.out hSb hxb)
      rw [hlb] at HLB
      go_enter Try.func3, Try.ntmps3
      go_wp2_with fail
      refine HLA.out.mono ?_
      rintro e w' ⟨rfl, rfl⟩
      go_wp2_with fail
      refine HLB.out.mono ?_
      rintro e w' ⟨rfl, rfl⟩
      go_wp2_with fail
      refine (awake16_any w).mono ?_
      rintro e w' ⟨rfl, hb'⟩
      go_wp2_with fail
      go_ret
      exact ⟨rfl, hb'⟩
    | true =>
      have HLB := Lib.hid (light_any Sb _ b w HB.out hSb hxb)
      rw [hlb] at HLB
      by_cases hkl : 300 < n3
      · have hd : decide (300 < (n3 : Int)) = true := decide_eq_true (by omega)
        go_enter Try.func3, Try.ntmps3
        go_wp2_with fail
        refine HLA.out.mono ?_
        rintro e w' ⟨rfl, rfl⟩
        go_wp2_with fail
        refine HLB.out.mono ?_
        rintro e w' ⟨rfl, rfl⟩
        go_wp2_with fail
        refine (awake16_any w).mono ?_
        rintro e w' ⟨rfl, hb'⟩
        go_wp2_with fail
        go_ret
        exact ⟨rfl, hb'⟩
      · have hd : decide (300 < (n3 : Int)) = false := decide_eq_false (by omega)
        obtain ⟨la1, la2⟩ := lightB_light hla
        obtain ⟨lb1, lb2⟩ := lightB_light hlb
        have hn1 : n1 ≤ 20 := by have := H1.out; omega
        have hn2 : n2 ≤ 20 := by have := H2.out; omega
        have LA : Light a := ⟨by omega, la2⟩
        have LB : Light b := ⟨by omega, lb2⟩
        have LE : Light [] := ⟨by simp, by simp⟩
        have LAB : Light (a ++ b) := ⟨by simp; omega, fun t ht => by rcases List.mem_append.1 ht with h | h; exact la2 t h; exact lb2 t h⟩
        have HLABS := Lib.hid LAB
        clear la1 la2 lb1 lb2 hla hlb
        -- the world behind the disk's variable
        obtain ⟨w1, hw1⟩ : ∃ w1, w.alloc (.cells #[.slice none 0 0, .bool false, .int .i64 (-1)] 28) = w1 := ⟨_, rfl⟩
        have hb1 : Below w.heap.size w w1 := by rw [← hw1]; exact (Below.refl _ w).alloc (Nat.le_refl _) _
        have hz1' : w1.heap.size = w.heap.size + 1 := by rw [← hw1]; simp
        have hd1 : w1.heap[w.heap.size]? = some (.cells #[.slice none 0 0, .bool false, .int .i64 (-1)] 28 (0, 0)) := by rw [← hw1]; exact heap_new rfl _
        have HAP := Lib.hid (append_few (fun _ => False) Sa (.slice none 0 0) _ none [] a w1 rfl LE LA (Lst.nil _ _ _) (fun k h => h.elim) (HA.out.keep (fun k hk => hb1.block k (hSa k hk))) (fun k hk => by have := hSa k hk; omega))
        have HW1 := Lib.hid hw1
        clear hw1
        go_enter Try.func3, Try.ntmps3
        go_wp2_with fail
        refine HLA.out.mono ?_
        rintro e w' ⟨rfl, rfl⟩
        go_wp2_with fail
        refine HLB.out.mono ?_
        rintro e w' ⟨rfl, rfl⟩
        go_wp2_with fail
        rw [HW1.out]
        refine HAP.out.mono ?_
        rintro e w2 ⟨A4, m4, c4, S4, rfl, hl4, hS4, hb2⟩
        have hz2' := hb2.size
        -- x
        obtain ⟨w3, hw3⟩ : ∃ w3, w2.alloc (.cells #[.slice A4 m4 c4, .bool false, .int .i64 (-1)] 28) = w3 := ⟨_, rfl⟩
        have hb3 : Below w2.heap.size w2 w3 := by rw [← hw3]; exact (Below.refl _ w2).alloc (Nat.le_refl _) _
        have hz3' : w3.heap.size = w2.heap.size + 1 := by rw [← hw3]; simp
        have hd3 : w3.heap[w2.heap.size]? = some (.cells #[.slice A4 m4 c4, .bool false, .int .i64 (-1)] 28 (0, 0)) := by rw [← hw3]; exact heap_new rfl _
        have hb03 : Below w.heap.size w w3 := (hb1.trans (hb2.mono (by omega))).trans (hb3.mono (by omega))
        have HAP2 := Lib.hid (append_few S4 Sb _ _ (moreLog none a) a b w3 (by rw [moreLog_text]; exact rfl) LA LB (hl4.keep (fun k hk => hb3.block k (hS4 k hk).1)) (fun k hk => by have := (hS4 k hk).1; omega) (HB.out.keep (fun k hk => hb03.block k (hSb k hk))) (fun k hk => by have := hSb k hk; omega))
        have x0 : w3.cell? ⟨w2.heap.size, 0, none⟩ = some (.slice A4 m4 c4) := cell_of_row w3 _ 0 _ _ _ hd3
        have x1 : w3.cell? ⟨w2.heap.size, 1, none⟩ = some (.bool false) := cell_of_row w3 _ 1 _ _ _ hd3
        have x2 : w3.cell? ⟨w2.heap.size, 2, none⟩ = some (.int .i64 (-1)) := cell_of_row w3 _ 2 _ _ _ hd3
        have HW3 := Lib.hid hw3
        clear hw3
        go_wp2_with fail
        rw [HW3.out]
        refine HAP2.out.mono ?_
        rintro e w4 ⟨A5, m5, c5, S5, rfl, hl5, hS5, hb4⟩
        have hz4' := hb4.size
        have hd4 := (hb4.block _ (by omega)).trans hd3
        have y0 : w4.cell? ⟨w2.heap.size, 0, none⟩ = some (.slice A4 m4 c4) := cell_of_row w4 _ 0 _ _ _ hd4
        have y1 : w4.cell? ⟨w2.heap.size, 1, none⟩ = some (.bool false) := cell_of_row w4 _ 1 _ _ _ hd4
        have y2 : w4.cell? ⟨w2.heap.size, 2, none⟩ = some (.int .i64 (-1)) := cell_of_row w4 _ 2 _ _ _ hd4
        have y3 : w4.frozen? ⟨w2.heap.size, 0, none⟩ = false := frozen_of_row w4 _ 0 _ _ hd4
        have y4 : w4.frozen? ⟨w2.heap.size, 1, none⟩ = false := frozen_of_row w4 _ 1 _ _ hd4
        have y5 : w4.frozen? ⟨w2.heap.size, 2, none⟩ = false := frozen_of_row w4 _ 2 _ _ hd4
        obtain ⟨w5, hw5⟩ : ∃ w5, ((w4.setCell ⟨w2.heap.size, 0, none⟩ (.slice A5 m5 c5)).setCell ⟨w2.heap.size, 1, none⟩ (.bool false)).setCell ⟨w2.heap.size, 2, none⟩ (.int .i64 (-1)) = w5 := ⟨_, rfl⟩
        have hk5 : ∀ k, k ≠ w2.heap.size → w5.heap[k]? = w4.heap[k]? := fun k hk => by
          rw [← hw5]; exact (Below.heap_setCell _ ⟨w2.heap.size, 2, none⟩ _ k hk).trans ((Below.heap_setCell _ ⟨w2.heap.size, 1, none⟩ _ k hk).trans (Below.heap_setCell _ ⟨w2.heap.size, 0, none⟩ _ k hk))
        have hz5' : w5.heap.size = w4.heap.size := by rw [← hw5]; simp
        have hd5 : w5.heap[w2.heap.size]? = some (.cells #[.slice A5 m5 c5, .bool false, .int .i64 (-1)] 28 (0, 0)) := by
          rw [← hw5]
          have e1 := heap_setCell_same w4 (w2.heap.size) 0 _ _ (.slice A5 m5 c5) hd4
          have e2 := heap_setCell_same _ (w2.heap.size) 1 _ _ (.bool false) e1
          have e3 := heap_setCell_same _ (w2.heap.size) 2 _ _ (.int .i64 (-1)) e2
          simpa using e3
        have hb45 : Below w.heap.size w w5 := (hb03.trans (hb4.mono (by omega))).trans ⟨by rw [← hw5]; rfl, by rw [← hw5]; rfl, by rw [← hw5]; rfl, by omega, fun k hk => hk5 k (by omega)⟩
        have hS5' : ∀ k, S5 k → k < w5.heap.size ∧ k ≠ w2.heap.size := fun k hk => by
          obtain ⟨q1, q2⟩ := hS5 k hk
          refine ⟨by omega, ?_⟩
          rcases q2 with h | h
          · have := (hS4 k h).1; omega
          · omega
        have hl5' : Lst fileR w5 S5 (.slice A5 m5 c5) (diskOf (moreLog (moreLog none a) b) (-1)).files := hl5.keep (fun k hk => hk5 k (hS5' k hk).2)
        have hd15 : w5.heap[w.heap.size]? = some (.cells #[.slice none 0 0, .bool false, .int .i64 (-1)] 28 (0, 0)) := (hk5 _ (by omega)).trans ((hb4.block _ (by omega)).trans ((hb3.block _ (by omega)).trans ((hb2.block _ (by omega)).trans hd1)))
        have hmade : Own strR (w5.alloc (.cells #[] 9)) w5.heap.size 9 (fun _ => False) (.slice (some ⟨w5.heap.size, 0, none⟩) 0 0) [] :=
          ⟨[], World.ownsRow_made w5 #[] 0 (Nat.le_refl _) (Nat.zero_le _) (by simp), rfl, fun k hk hs => hs⟩
        have hb5a : Below w5.heap.size w5 (w5.alloc (.cells #[] 9)) := (Below.refl _ w5).alloc (Nat.le_refl _) _
        obtain ⟨-, -, -, hsA⟩ := (HA.out.keep (W' := w5.alloc (.cells #[] 9)) (fun k hk => (hb5a.block k (by have := hSa k hk; omega)).trans (hb45.block k (hSa k hk)))).src
        have HSA := Lib.hid (src_str (S' := fun _ => False) hsA)
        have HB5 := Lib.hid (HB.out.keep (W' := w5) (fun k hk => hb45.block k (hSb k hk)))
        have HM := Lib.hid hmade
        have N1 := H1.out
        have N2 := H2.out
        have B1 := Lib.hid (show 0 + n1 ≤ maxLen by unfold maxLen; omega)
        have B2 := Lib.hid (show a.length + n2 ≤ maxLen by unfold maxLen; omega)
        have hz5a : w5.heap.size ≤ w4.heap.size := by omega
        have hz5b : w4.heap.size ≤ w5.heap.size := by omega
        clear x0 x1 x2 hmade N1 N2 hz5' hsA hd4 hk5 hd1 hd3 hz1' hz3'
        go_wp2_with (at_builtin; refine wpList_append (r := strR) rfl (.tmp 42) (.tmp 43) _ rfl w5.heap.size 9 i0 _ 16 Try.underlying22 hi0 hz0 hz1 hz2 rfl (by decide) (S := fun _ => False) (fun k hk => hk.elim) (.slice (some ⟨w5.heap.size, 0, none⟩) 0 0) [] a rfl HM.out A1 n1 c1 rfl H1.out HSA.out B1.out (by simp; omega) (by simp) ?_)
        intro v6 w6 ho6 hg6 hat6
        have ho6 : Own strR w6 w5.heap.size 9 (fun _ => False) v6 a := ho6
        have hb56 : Below w5.heap.size w5 w6 := hb5a.grown hg6 (by simp) (fun k hk => by have hk : w5.heap.size = k := (by injection hk); omega)
        have hz56 := hb56.size
        have HO6 := Lib.hid ho6
        obtain ⟨-, -, -, hsB⟩ := (HB5.out.keep (W' := w6) (fun k hk => hb56.block k (by have := hSb k hk; have := hb45.size; omega))).src
        have HSB := Lib.hid (src_str (S' := fun _ => False) hsB)
        have hn2' : a.length ≤ 20 := by have := H1.out; omega
        clear hw5 ho6 hsB hg6 hat6
        go_wp2_with (at_builtin; refine wpList_append (r := strR) rfl (.tmp 44) (.tmp 45) _ rfl w5.heap.size 9 i0 _ 16 Try.underlying22 hi0 hz0 hz1 hz2 rfl (by decide) (S := fun _ => False) (fun k hk => hk.elim) v6 a b rfl HO6.out A2 n2 c2 rfl H2.out HSB.out B2.out (by omega) (by omega) ?_)
        intro v7 w7 ho7 hg7 hat7
        have hb57 : Below w5.heap.size w5 w7 := hb56.grown hg7 (by omega) (fun k hk => by have := (HO6.out.lt k hk).1; omega)
        have hz57 := hb57.size
        have hall := ho7.read
        have hallt := ho7.lt
        have hd17 : w7.heap[w.heap.size]? = some (.cells #[.slice none 0 0, .bool false, .int .i64 (-1)] 28 (0, 0)) := (hb57.block _ (by have := (Array.getElem?_eq_some_iff.1 hd15).1; omega)).trans hd15
        have hw2l : w2.heap.size < w5.heap.size := (Array.getElem?_eq_some_iff.1 hd5).1
        have hd57 := (hb57.block _ hw2l).trans hd5
        have hl57 := hl5'.keep (W' := w7) (fun k hk => hb57.block k (hS5' k hk).1)
        have hw1l : w.heap.size < w5.heap.size := (Array.getElem?_eq_some_iff.1 hd15).1
        obtain ⟨A7, m7, c7, rfl, -⟩ := ho7.read.form
        have HAL := Lib.hid hall
        have HALT := Lib.hid hallt
        have HAP3 := Lib.hid (append_few (fun _ => False) _ (.slice none 0 0) _ none [] (a ++ b) w7 rfl LE LAB (Lst.nil _ _ _) (fun k h => h.elim) hall (fun k hk => by rcases hk with h | h; exact h.elim; exact (hallt k h).2))
        have z0 : w7.cell? ⟨w.heap.size, 0, none⟩ = some (.slice none 0 0) := cell_of_row w7 _ 0 _ _ _ hd17
        have z1 : w7.cell? ⟨w.heap.size, 1, none⟩ = some (.bool false) := cell_of_row w7 _ 1 _ _ _ hd17
        have z2 : w7.cell? ⟨w.heap.size, 2, none⟩ = some (.int .i64 (-1)) := cell_of_row w7 _ 2 _ _ _ hd17
        clear ho7 hg7 hat7 hall hallt HO6 HSB
        go_wp2_with fail
        refine HAP3.out.mono ?_
        rintro e w8 ⟨A8, m8, c8, S8, rfl, hl8, hS8, hb8⟩
        have hz8 := hb8.size
        -- y
        obtain ⟨w9, hw9⟩ : ∃ w9, w8.alloc (.cells #[.slice A8 m8 c8, .bool false, .int .i64 (-1)] 28) = w9 := ⟨_, rfl⟩
        have hb9 : Below w8.heap.size w8 w9 := by rw [← hw9]; exact (Below.refl _ w8).alloc (Nat.le_refl _) _
        have hz9 : w9.heap.size = w8.heap.size + 1 := by rw [← hw9]; simp
        have hd9 : w9.heap[w8.heap.size]? = some (.cells #[.slice A8 m8 c8, .bool false, .int .i64 (-1)] 28 (0, 0)) := by rw [← hw9]; exact heap_new rfl _
        have hb79 : Below w7.heap.size w7 w9 := hb8.trans (hb9.mono hz8)
        have hd59 := (hb79.block _ (by omega)).trans hd57
        have hl59 := hl57.keep (W' := w9) (fun k hk => hb79.block k (by have := (hS5' k hk).1; omega))
        have hl9 := hl8.keep (W' := w9) (fun k hk => hb9.block k (hS8 k hk).1)
        have hS8' : ∀ k, S8 k → k < w9.heap.size := fun k hk => by have := (hS8 k hk).1; omega
        have hb09 : Below w.heap.size w w9 := (hb45.trans (hb57.mono hb45.size)).trans (hb79.mono (by have := hb45.size; omega))
        have o2few : (moreLog (moreLog none a) b) = (moreLog (moreLog none a) b) := rfl
        have hO2 : textOf (moreLog (moreLog none a) b) = wraps (a ++ b) := by rw [moreLog_text, moreLog_text, wraps_append]; exact rfl
        have HO2 := Lib.hid hO2
        have HFEW : Hid (∀ f ∈ (diskOf (moreLog (moreLog none a) b) (-1)).files, FileFew f ∧ f.ops.length ≤ 1000) := by
          intro f hf
          have hlen := wraps_short (a ++ b) LAB.2
          have h40 := LAB.1
          generalize moreLog (moreLog none a) b = o at *
          cases o with
          | none => cases hf
          | some t =>
            have hf : f ∈ [(⟨logN, t, []⟩ : FileM)] := hf
            rw [List.mem_singleton.1 hf]
            have ht : t = wraps (a ++ b) := hO2
            exact ⟨⟨by rw [ht]; simp only; omega, by simp, fun o ho => by cases ho⟩, by simp⟩
        have HCR := Lib.hid (crash_any S5 Sk _ _ (diskOf (moreLog (moreLog none a) b) (-1)) keep w9 hl59 (fun k hk => by have := (hS5' k hk).1; omega) (HK.out.keep (fun k hk => hb09.block k (hSk k hk))) (fun k hk => by have := hSk k hk; have := hb09.size; omega) (by cases (moreLog (moreLog none a) b) <;> simp [diskOf]) HFEW.out)
        rw [crash_of] at HCR
        have x0 : w9.cell? ⟨w2.heap.size, 0, none⟩ = some (.slice A5 m5 c5) := cell_of_row w9 _ 0 _ _ _ hd59
        have x1 : w9.cell? ⟨w2.heap.size, 1, none⟩ = some (.bool false) := cell_of_row w9 _ 1 _ _ _ hd59
        have x2 : w9.cell? ⟨w2.heap.size, 2, none⟩ = some (.int .i64 (-1)) := cell_of_row w9 _ 2 _ _ _ hd59
        have hz9a : w8.heap.size < w9.heap.size := by omega
        have HW9 := Lib.hid hw9
        clear z0 z1 z2 hO2 o2few hz9
        go_wp2_with fail
        refine HCR.out.mono ?_
        rintro e w10 ⟨v10, S10, rfl, ⟨fv10, rfl, hl10⟩, hS10, hb10⟩
        obtain ⟨A10, m10, c10, rfl, -⟩ := hl10.form
        rw [show (diskOf (moreLog (moreLog none a) b) (-1)).off = false from rfl, show (diskOf (moreLog (moreLog none a) b) (-1)).fuse = -1 from rfl]
        have hz10 := hb10.size
        -- z
        obtain ⟨w11, hw11⟩ : ∃ w11, w10.alloc (.cells #[.slice A10 m10 c10, .bool false, .int .i64 (-1)] 28) = w11 := ⟨_, rfl⟩
        have hb11 : Below w10.heap.size w10 w11 := by rw [← hw11]; exact (Below.refl _ w10).alloc (Nat.le_refl _) _
        have hz11 : w10.heap.size < w11.heap.size := by rw [← hw11]; simp
        have hd11 : w11.heap[w10.heap.size]? = some (.cells #[.slice A10 m10 c10, .bool false, .int .i64 (-1)] 28 (0, 0)) := by rw [← hw11]; exact heap_new rfl _
        have hb911 : Below w9.heap.size w9 w11 := hb10.trans (hb11.mono hz10)
        have hoy : textOf (moreLog none (a ++ b)) = wraps (a ++ b) := by rw [moreLog_text]; exact rfl
        have HF : Hid (∀ W, Below w11.heap.size w11 W →
            (W.cell? ⟨w2.heap.size, 0, none⟩ = some (.slice A5 m5 c5) ∧ W.cell? ⟨w2.heap.size, 1, none⟩ = some (.bool false) ∧ W.cell? ⟨w2.heap.size, 2, none⟩ = some (.int .i64 (-1))) ∧
            (W.cell? ⟨w8.heap.size, 0, none⟩ = some (.slice A8 m8 c8) ∧ W.cell? ⟨w8.heap.size, 1, none⟩ = some (.bool false) ∧ W.cell? ⟨w8.heap.size, 2, none⟩ = some (.int .i64 (-1))) ∧
            (W.cell? ⟨w10.heap.size, 0, none⟩ = some (.slice A10 m10 c10) ∧ W.cell? ⟨w10.heap.size, 1, none⟩ = some (.bool false) ∧ W.cell? ⟨w10.heap.size, 2, none⟩ = some (.int .i64 (-1)))) := by
          intro W hW
          have hx : W.heap[w2.heap.size]? = some (.cells #[.slice A5 m5 c5, .bool false, .int .i64 (-1)] 28 (0, 0)) := (hW.block _ (by omega)).trans ((hb911.block _ (by omega)).trans hd59)
          have hy : W.heap[w8.heap.size]? = some (.cells #[.slice A8 m8 c8, .bool false, .int .i64 (-1)] 28 (0, 0)) := (hW.block _ (by omega)).trans ((hb911.block _ (by omega)).trans hd9)
          have hz : W.heap[w10.heap.size]? = some (.cells #[.slice A10 m10 c10, .bool false, .int .i64 (-1)] 28 (0, 0)) := (hW.block _ (by omega)).trans hd11
          exact ⟨⟨cell_of_row W _ 0 _ _ _ hx, cell_of_row W _ 1 _ _ _ hx, cell_of_row W _ 2 _ _ _ hx⟩, ⟨cell_of_row W _ 0 _ _ _ hy, cell_of_row W _ 1 _ _ _ hy, cell_of_row W _ 2 _ _ _ hy⟩, cell_of_row W _ 0 _ _ _ hz, cell_of_row W _ 1 _ _ _ hz, cell_of_row W _ 2 _ _ _ hz⟩
        have HLX := Lib.hid (fun W (hW : Below w11.heap.size w11 W) => load_few S5 (.slice A5 m5 c5) (moreLog (moreLog none a) b) (a ++ b) W HO2.out HLABS.out (hl59.keep (fun k hk => (hW.block k (by have := (hS5' k hk).1; omega)).trans (hb911.block k (by have := (hS5' k hk).1; omega)))) (fun k hk => by have := (hS5' k hk).1; have := hW.size; omega))
        have HLY := Lib.hid (fun W (hW : Below w11.heap.size w11 W) => load_few S8 (.slice A8 m8 c8) (moreLog none (a ++ b)) (a ++ b) W hoy HLABS.out (hl9.keep (fun k hk => (hW.block k (by have := hS8' k hk; omega)).trans (hb911.block k (hS8' k hk)))) (fun k hk => by have := hS8' k hk; have := hW.size; omega))
        have HLZ := Lib.hid (fun W (hW : Below w11.heap.size w11 W) => load_few S10 (.slice A10 m10 c10) (moreLog (moreLog none a) b) (a ++ b) W HO2.out HLABS.out (hl10.keep (fun k hk => (hW.block k (by have := (hS10 k hk).1; omega)).trans (hb11.block k (hS10 k hk).1))) (fun k hk => by have := (hS10 k hk).1; have := hW.size; omega))
        have HSM := Lib.hid (fun W v (hW : Below w11.heap.size w11 W) (hv : Lst strR W (fun k => v.ownBlock = some k) v (a ++ b)) (hlt : ∀ k, v.ownBlock = some k → k < W.heap.size) => same3_any _ _ v (.slice A7 m7 c7) (a ++ b) (a ++ b) W hv (HAL.out.keep (W' := W) (fun k hk => by
          have hk7 : k < w7.heap.size := by rcases hk with h | h; exact h.elim; exact (HALT.out k h).2
          exact (hW.block k (by have := hb79.size; omega)).trans ((hb911.block k (by have := hb79.size; omega)).trans (hb79.block k hk7)))) hlt (fun k hk => by
          have hk7 : k < w7.heap.size := by rcases hk with h | h; exact h.elim; exact (HALT.out k h).2
          have := hb79.size; have := hW.size; omega))
        have hb0 : Below w.heap.size w w11 := hb09.trans (hb911.mono hb09.size)
        have hz0' := hb0.size
        have dT : decide (a ++ b = a ++ b) = true := decide_eq_true rfl
        rw [dT] at HSM
        obtain ⟨⟨x0', x1', x2'⟩, -, -⟩ := HF.out w11 (Below.refl _ _)
        have HL11 := Lib.hid hw11
        clear x0 x1 x2 hw9 hl9 hl10 hd11 hd9 hd59 dT hoy
        go_wp2_with fail
        refine (HLX.out w11 (Below.refl _ _)).mono ?_
        rintro e w12 ⟨v12, rfl, hl12, hlt12, hb12⟩
        have HS12 := Lib.hid (HSM.out w12 v12 hb12 hl12 (fun k hk => (hlt12 k hk).2))
        obtain ⟨A12, m12, c12, rfl, -⟩ := hl12.form
        clear hl12 hlt12 x0' x1' x2' hw11
        go_wp2_with fail
        refine HS12.out.mono ?_
        rintro e w13 ⟨rfl, q13, hw13⟩
        have hb13 : Below w11.heap.size w11 w13 := hb12.trans (by rw [hw13]; exact below_drewN (Below.refl _ _) _)
        clear hw13
        obtain ⟨-, ⟨x0', x1', x2'⟩, -⟩ := HF.out w13 hb13
        go_wp2_with fail
        refine (HLY.out w13 hb13).mono ?_
        rintro e w14 ⟨v14, rfl, hl14, hlt14, hb14⟩
        have hb14' := hb13.trans (hb14.mono hb13.size)
        have HS14 := Lib.hid (HSM.out w14 v14 hb14' hl14 (fun k hk => (hlt14 k hk).2))
        obtain ⟨A14, m14, c14, rfl, -⟩ := hl14.form
        clear hl14 hlt14 x0' x1' x2'
        go_wp2_with fail
        refine HS14.out.mono ?_
        rintro e w15 ⟨rfl, q15, hw15⟩
        have hb15 : Below w11.heap.size w11 w15 := hb14'.trans (by rw [hw15]; exact below_drewN (Below.refl _ _) _)
        clear hw15
        obtain ⟨-, -, ⟨x0', x1', x2'⟩⟩ := HF.out w15 hb15
        go_wp2_with fail
        refine (HLZ.out w15 hb15).mono ?_
        rintro e w16 ⟨v16, rfl, hl16, hlt16, hb16⟩
        have hb16' := hb15.trans (hb16.mono hb15.size)
        have HS16 := Lib.hid (HSM.out w16 v16 hb16' hl16 (fun k hk => (hlt16 k hk).2))
        obtain ⟨A16, m16, c16, rfl, -⟩ := hl16.form
        clear hl16 hlt16 x0' x1' x2'
        go_wp2_with fail
        refine HS16.out.mono ?_
        rintro e w17 ⟨rfl, q17, hw17⟩
        have hb17 : Below w11.heap.size w11 w17 := hb16'.trans (by rw [hw17]; exact below_drewN (Below.refl _ _) _)
        clear hw17
        go_wp2_with fail
        refine (awake16_any w17).mono ?_
        rintro e w18 ⟨rfl, hb18⟩
        have hb18' := (hb0.trans (hb17.mono hz0')).trans (hb18.mono (by have := hb17.size; omega))
        go_wp2_with fail
        go_ret
        exact ⟨rfl, hb18'⟩

end Go.Proofs.Ytaalhhgjliofaaa
