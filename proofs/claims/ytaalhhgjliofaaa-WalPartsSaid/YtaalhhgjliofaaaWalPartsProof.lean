/- The law WalParts answers true at every input, and its arguments read behind the call as they read before. Conditions: none beyond the row's own. -/
import Derived.Test.YtaalhhgjliofaaaRows
import Derived.Test.YtaalhhgjliofaaaWalParts
import Derived.Test.YtaalhhgjliofaaaOpen
import Derived.ProofKit
import Derived.SizedLaws
set_option linter.unusedVariables false
set_option linter.unusedSimpArgs false
set_option maxRecDepth 100000
namespace Go.Proofs.Ytaalhhgjliofaaa
open Go.ChangeShapes Go.WideShapes Go.ChangeAt Go.RowKit

theorem wp_own : ownKnob Try.prog.godebug = none := by kernel_rfl
theorem wp_laidOut : laidOutB Try.prog = true := by kernel_rfl
theorem wp_cellsStr : Try.prog.cellsOf 9 = 1 := by kernel_rfl
theorem wp_cellsBool : Try.prog.cellsOf 4 = 1 := by kernel_rfl

theorem walParts_lifted (os : Os) (started : os.Started) (H : Type) (enc : TypeId × Value → H) :
    ReturnsInHanded {} Try.checked os 3 .any (Rows.walPartsSpec.pre6 enc Try.prog Try.f3 Rows.walPartsRow.domain false) (Rows.walPartsSpec.post enc Try.prog Try.f3 false true false false) := by
  refine returnsInHanded_of_change_sized (C := Try.checked) wp_own started (by kernel_rfl) Try.func3
    (ChangeSpec.witness6 (enc := enc) (C := Try.checked) false ⟨#[], #[.slice none 0 0, .slice none 0 0, .slice none 0 0], []⟩ 8 (by kernel_rfl) (by kernel_rfl) (by kernel_rfl) (by kernel_rfl)) ?_
  intro W base args ds gs before hval0 hW _ hsz0 _
  clear hsz0
  have hval : ∀ (j : Nat) t v, Try.f3.params[j]? = some t → args[j]? = some v → Value.okWide Try.prog W .any base t v := hval0
  have hW' := hW
  obtain ⟨p, q, hA0, hV, rfl, _, _⟩ := hW
  have hA : DataW.TrodAll enc Try.prog W 0 (fun _ => true) true Try.f3.params.toList args.toList ds p := hA0
  rw [Try.params3] at hA hval
  obtain ⟨v0, v1, v2, d0, d1, d2, p0, p1, p2, rfl, rfl, rfl, h0, h1, h2⟩ := trodAll_three hA
  obtain ⟨rfl, rfl⟩ := trodVars_none hV
  simp only [List.append_nil] at hW'
  have hlt : ∀ x ∈ p0 ++ p1 ++ p2, x.block < W.heap.size := fun x hx => by simpa using hW'.lt x hx
  have hlt0 : ∀ x ∈ p0, x.block < W.heap.size := fun x hx => hlt x (by simp [hx])
  have hlt1 : ∀ x ∈ p1, x.block < W.heap.size := fun x hx => hlt x (by simp [hx])
  have hlt2 : ∀ x ∈ p2, x.block < W.heap.size := fun x hx => hlt x (by simp [hx])
  obtain ⟨a, ha, hxa⟩ := open_list (okWide_slice Try.underlying22 (hval 0 22 v0 rfl rfl)) Try.underlying22 (openAt_str Try.underlying9) wp_cellsStr (by decide) h0
  obtain ⟨b, hb, hxb⟩ := open_list (okWide_slice Try.underlying22 (hval 1 22 v1 rfl rfl)) Try.underlying22 (openAt_str Try.underlying9) wp_cellsStr (by decide) h1
  obtain ⟨keep, hk, -⟩ := open_list (okWide_slice Try.underlying23 (hval 2 23 v2 rfl rfl)) Try.underlying23 (openAt_bool Try.underlying4) wp_cellsBool (by decide) h2
  refine (walParts_any _ _ _ v0 v1 v2 a b keep W ha hb hk (fun k ⟨x, hx, e⟩ => e ▸ hlt0 x hx) (fun k ⟨x, hx, e⟩ => e ▸ hlt1 x hx) (fun k ⟨x, hx, e⟩ => e ▸ hlt2 x hx) (fun t ht => by have := hxa t ht; unfold maxLen at this; omega) (fun t ht => by have := hxb t ht; unfold maxLen at this; omega)).mono fun e W' ⟨he, hnx⟩ => ?_
  subst he
  refine ⟨_, rfl, _, _, _, [], p0 ++ p1 ++ p2, [], hW', ?_, ?_, rfl, hnx.frame _, fun h => by cases h⟩
  · exact trodAll_mk1 (shut_bool Try.underlying4 true)
  · rw [List.append_assoc]
    exact trodAll_mk3 (Below.trod wp_laidOut (by kernel_rfl) (of_decide_eq_true (by kernel_rfl)) h0 hnx hlt0) (Below.trod wp_laidOut (by kernel_rfl) (of_decide_eq_true (by kernel_rfl)) h1 hnx hlt1) (Below.trod wp_laidOut (by kernel_rfl) (of_decide_eq_true (by kernel_rfl)) h2 hnx hlt2)

theorem walParts_holds : Rows.WalPartsSaid :=
  OpenClaim.holds_of_wide 3 Try.f3 rfl rfl rfl rfl rfl rfl rfl ⟨rfl, rfl, rfl, rfl, rfl⟩ rfl rfl rfl rfl rfl (by kernel_rfl) Try.func3 (by kernel_rfl)
    (of_decide_eq_true (by kernel_rfl)) (by unfold Func.isWrapper; first | (rw [if_pos (by decide +kernel)]; kernel_rfl) | (rw [if_neg (by decide +kernel)]; exact ⟨rfl, rfl⟩))
    (fun os started H enc _ => walParts_lifted os started H enc)

#print axioms walParts_holds

end Go.Proofs.Ytaalhhgjliofaaa
