/- Contracts of slices.Clone at the disk's types. -/
import Derived.Test.YtaalhhgjliofaaaDisk1
import Derived.WalkSpells
set_option linter.unusedVariables false
set_option linter.unusedSimpArgs false
set_option maxRecDepth 100000
namespace Go.Proofs.Ytaalhhgjliofaaa
open Go.RowKit Go.Shelf

theorem info_ops : (Try.prog.info? 49).map (fun i => (i.zero, i.size, i.bytes)) = some (some (.agg #[.int .i64 0, .string ⟨#[]⟩]), 2, 24) := by kernel_rfl
theorem clone_ops (S : Nat → Prop) (v : Value) (xs : List _) (w : World) (hf : Lst opR w S v xs) (hS : ∀ k, S k → k < w.heap.size) (hlen : xs.length ≤ 1000000) :
    Calls Try.prog 38 #[v] w fun e w' => ∃ v', e = .returned v' ∧ Own opR w' w.heap.size 49 S v' xs ∧ Below w.heap.size w w' := by
  obtain ⟨i0, hi0, hz0, hz1, hz2⟩ := info_parts info_ops
  obtain ⟨A, n, c, rfl, hn, hnc, hcm⟩ := hf.form
  have HN := Lib.hid hn
  have hlen : n ≤ 1000000 := by omega
  have hsrc := Lib.hid (hf.src).2.2.2
  rcases A with _ | ad
  · have hx : xs = [] := by
      rcases xs with _ | ⟨x, xs⟩
      · rfl
      · obtain ⟨ad, cs, h, _⟩ := hf.at_ (k := 0) rfl
        cases h
    subst hx
    simp at hn
    subst hn
    have hq := fun w => Lib.run_eql_slice_nil (P := Try.prog) w 44 49 none 0 c 0 0 Try.underlying44
    go_enter Try.func38, Try.ntmps38
    go_wp2_with fail
    go_ret
    exact ⟨_, rfl, Own.nil _ _ _ _ _, Below.refl _ _⟩
  · clear hn
    have hmade : Own opR (w.alloc (.cells #[] 49)) w.heap.size 49 S (.slice (some ⟨w.heap.size, 0, none⟩) 0 0) [] :=
      ⟨[], World.ownsRow_made w #[] 0 (Nat.le_refl _) (Nat.zero_le _) (by simp), rfl, fun k hk hs => by
        have hk : w.heap.size = k := (by injection hk); have := hS k hs; omega⟩
    have hs2 : Src opR (w.alloc (.cells #[] 49)) S (some ad) xs := by
      obtain ⟨news, h1, h2⟩ := hsrc.out
      refine ⟨news, h1.keep (fun k hk => Below.heap_alloc _ _ _ (hS k hk)), fun h => ?_⟩
      obtain ⟨ad', ha, hc⟩ := h2 h
      refine ⟨ad', ha, fun j u hu => ?_⟩
      have := hc j u hu
      exact (World.cell?_alloc_lt w _ _ (World.block_lt_of_cell? w _ this)).trans this
    have hq := fun w => Lib.run_eql_slice_nil (P := Try.prog) w 44 49 (some ad) n c 0 0 Try.underlying44
    go_enter Try.func38, Try.ntmps38
    go_wp2_with (at_builtin; refine wpList_append (r := opR) rfl (.tmp 5) (.tmp 6) _ rfl w.heap.size 49 i0 _ 24 Try.underlying44 hi0 hz0 hz1 hz2 rfl (by decide) (S := S) (fun k hk => by have := hS k hk; simp; omega) (.slice (some ⟨w.heap.size, 0, none⟩) 0 0) [] xs rfl hmade (some ad) n c rfl HN.out hs2 (by simp [maxLen]; omega) (by simp; omega) (by simp) ?_)
    intro v2 w2 ho2 hg2 hat2
    go_wp2_with fail
    go_ret
    exact ⟨_, rfl, ho2, ((Below.refl _ w).alloc (Nat.le_refl _) _).grown hg2 (by simp) (fun k hk => by have hk : w.heap.size = k := (by injection hk); omega)⟩

theorem info_files : (Try.prog.info? 46).map (fun i => (i.zero, i.size, i.bytes)) = some (some (.agg #[.string ⟨#[]⟩, .string ⟨#[]⟩, .slice none 0 0]), 3, 56) := by kernel_rfl
theorem clone_files (S : Nat → Prop) (v : Value) (xs : List _) (w : World) (hf : Lst fileR w S v xs) (hS : ∀ k, S k → k < w.heap.size) (hlen : xs.length ≤ 1000000) :
    Calls Try.prog 53 #[v] w fun e w' => ∃ v', e = .returned v' ∧ Own fileR w' w.heap.size 46 S v' xs ∧ Below w.heap.size w w' := by
  obtain ⟨i0, hi0, hz0, hz1, hz2⟩ := info_parts info_files
  obtain ⟨A, n, c, rfl, hn, hnc, hcm⟩ := hf.form
  have HN := Lib.hid hn
  have hlen : n ≤ 1000000 := by omega
  have hsrc := Lib.hid (hf.src).2.2.2
  rcases A with _ | ad
  · have hx : xs = [] := by
      rcases xs with _ | ⟨x, xs⟩
      · rfl
      · obtain ⟨ad, cs, h, _⟩ := hf.at_ (k := 0) rfl
        cases h
    subst hx
    simp at hn
    subst hn
    have hq := fun w => Lib.run_eql_slice_nil (P := Try.prog) w 26 46 none 0 c 0 0 Try.underlying26
    go_enter Try.func53, Try.ntmps53
    go_wp2_with fail
    go_ret
    exact ⟨_, rfl, Own.nil _ _ _ _ _, Below.refl _ _⟩
  · clear hn
    have hmade : Own fileR (w.alloc (.cells #[] 46)) w.heap.size 46 S (.slice (some ⟨w.heap.size, 0, none⟩) 0 0) [] :=
      ⟨[], World.ownsRow_made w #[] 0 (Nat.le_refl _) (Nat.zero_le _) (by simp), rfl, fun k hk hs => by
        have hk : w.heap.size = k := (by injection hk); have := hS k hs; omega⟩
    have hs2 : Src fileR (w.alloc (.cells #[] 46)) S (some ad) xs := by
      obtain ⟨news, h1, h2⟩ := hsrc.out
      refine ⟨news, h1.keep (fun k hk => Below.heap_alloc _ _ _ (hS k hk)), fun h => ?_⟩
      obtain ⟨ad', ha, hc⟩ := h2 h
      refine ⟨ad', ha, fun j u hu => ?_⟩
      have := hc j u hu
      exact (World.cell?_alloc_lt w _ _ (World.block_lt_of_cell? w _ this)).trans this
    have hq := fun w => Lib.run_eql_slice_nil (P := Try.prog) w 26 46 (some ad) n c 0 0 Try.underlying26
    go_enter Try.func53, Try.ntmps53
    go_wp2_with (at_builtin; refine wpList_append (r := fileR) rfl (.tmp 5) (.tmp 6) _ rfl w.heap.size 46 i0 _ 56 Try.underlying26 hi0 hz0 hz1 hz2 rfl (by decide) (S := S) (fun k hk => by have := hS k hk; simp; omega) (.slice (some ⟨w.heap.size, 0, none⟩) 0 0) [] xs rfl hmade (some ad) n c rfl HN.out hs2 (by simp [maxLen]; omega) (by simp; omega) (by simp) ?_)
    intro v2 w2 ho2 hg2 hat2
    go_wp2_with fail
    go_ret
    exact ⟨_, rfl, ho2, ((Below.refl _ w).alloc (Nat.le_refl _) _).grown hg2 (by simp) (fun k hk => by have hk : w.heap.size = k := (by injection hk); omega)⟩

end Go.Proofs.Ytaalhhgjliofaaa
