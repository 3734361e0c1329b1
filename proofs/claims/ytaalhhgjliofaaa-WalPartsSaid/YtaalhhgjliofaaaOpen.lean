/- Arguments as they come in: what the reading of a datum says in the words of Rep and Lst. No program in sight. -/
import Derived.Test.YtaalhhgjliofaaaRow
import Derived.ChangeSlices
import Derived.ChangeArms
import Derived.DataReads
set_option linter.unusedVariables false
set_option linter.unusedSimpArgs false
namespace Go.Proofs.Ytaalhhgjliofaaa
open Go.RowKit

section
variable {H : Type} {enc : TypeId × Value → H} {P : Program} {w : World} {base : Nat} {spare : Nat → Bool} {held : Bool}

/-- What can be read at type t is read so. -/
def OpenAt (enc : TypeId × Value → H) (P : Program) (w : World) (base : Nat) (spare : Nat → Bool) (held : Bool) {α : Type} (r : Rep α) (ok : α → Prop) (t : TypeId) : Prop :=
  ∀ fuel cs x, DataW.trod enc P w base spare held fuel t cs = some x → ∃ a, r.rd w (fun k => ∃ p ∈ x.2, p.block = k) cs a ∧ ok a
theorem openAt_str {t : TypeId} (ht : P.underlying t = some .string) : OpenAt enc P w base spare held strR (fun l => l.length ≤ maxLen) t := by
  intro fuel cs x h
  obtain ⟨s, rfl, rfl, hw⟩ := DataW.trod_string ht h
  exact ⟨s.data.toList, rfl, by simpa using hw⟩
theorem openAt_bool {t : TypeId} (ht : P.underlying t = some .bool) : OpenAt enc P w base spare held boolR (fun _ => True) t := by
  intro fuel cs x h
  obtain ⟨b, rfl, rfl⟩ := DataW.trod_bool ht h
  exact ⟨b, rfl, trivial⟩
theorem openAt_slice {α : Type} {r : Rep α} {ok : α → Prop} {t e : TypeId} (ht : P.underlying t = some (.slice e)) (hr : OpenAt enc P w base spare held r ok e) (hsz : P.cellsOf e = r.sz) (hpos : 0 < r.sz) :
    OpenAt enc P w base spare held r.slice (fun xs => ∀ x ∈ xs, ok x) t := by
  intro fuel cs x h
  rcases DataW.trod_slice ht h with ⟨rfl, rfl⟩ | ⟨a, len, cap, elems, rest, n, rfl, rfl, rfl, hb, hl, hm, hlen, hel, hsp, hns⟩
  · exact ⟨[], ⟨_, rfl, Lst.nil _ _ _⟩, fun x hx => by cases hx⟩
  · obtain ⟨S, hSd⟩ : ∃ S : Nat → Prop, S = fun k => ∃ p ∈ MemPlace.row a ((elems.length + rest.length) * P.cellsOf e) ++ (elems ++ rest).flatMap (·.2), p.block = k := ⟨_, rfl⟩
    have key : ∀ k, k ≤ len → ∃ xs cells, xs.length = k ∧ Chunks r w S xs cells ∧ (∀ j u, cells[j]? = some u → w.cell? (a.add j) = some u) ∧ ∀ x ∈ xs, ok x := by
      intro k
      induction k with
      | zero => intro _; exact ⟨[], [], rfl, rfl, fun j u h => by simp at h, fun x hx => by cases hx⟩
      | succ k ih =>
        intro hk
        obtain ⟨xs, cells, h1, h2, h3, h4⟩ := ih (by omega)
        have h5 := hel k (by omega)
        have hke : k < elems.length := by omega
        rw [List.getElem?_eq_getElem hke, Option.bind_eq_some_iff] at h5
        obtain ⟨cs', hc1, hc2⟩ := h5
        obtain ⟨y, hy1, hy2⟩ := hr _ _ _ hc2
        obtain ⟨hcl, hcl2, hcc⟩ := World.cells?_some hc1
        refine ⟨xs ++ [y], cells ++ cs', by simp [h1], h2.snoc (r.mono hy1 ?_), ?_, ?_⟩
        · rintro j ⟨p, hp, rfl⟩
          rw [hSd]
          refine ⟨p, List.mem_append_right _ (List.mem_flatMap.2 ⟨elems[k], List.mem_append_left _ (List.getElem_mem hke), hp⟩), rfl⟩
        · intro j u hu
          have hl2 := h2.len
          by_cases hj : j < cells.length
          · rw [List.getElem?_append_left hj] at hu; exact h3 j u hu
          · rw [List.getElem?_append_right (by omega)] at hu
            have hjl := (List.getElem?_eq_some_iff.1 hu).1
            have := hcc (j - cells.length) (by omega)
            rw [hu, add_add', hsz] at this
            rw [← this]
            congr 2
            rw [hl2, h1] at hj ⊢; omega
        · intro z hz
          rcases List.mem_append.1 hz with h | h
          · exact h4 z h
          · rw [List.mem_singleton.1 h]; exact hy2
    obtain ⟨xs, cells, h1, h2, h3, h4⟩ := key len (Nat.le_refl _)
    refine ⟨xs, ⟨.slice (some a) len cap, rfl, some a, cap, cells, by rw [h1], by omega, hm, by rw [← hSd]; exact h2, fun h0 => ⟨a, rfl, ?_, h3⟩⟩, h4⟩
    refine ⟨.cell a.block (a.off + 0), List.mem_append_left _ (MemPlace.mem_row.2 ⟨0, ?_, rfl⟩), rfl⟩
    rw [hsz]
    exact Nat.mul_pos (by omega) hpos
/-- An argument that is a slice. -/
theorem open_list {α : Type} {r : Rep α} {ok : α → Prop} {t e : TypeId} {v : Value} {d : DataW H} {ps : List MemPlace} (hv : ∃ A n c, v = .slice A n c) (ht : P.underlying t = some (.slice e)) (hr : OpenAt enc P w base spare held r ok e) (hsz : P.cellsOf e = r.sz) (hpos : 0 < r.sz)
    (h : DataW.Trod enc P w base spare held t v d ps) : ∃ xs, Lst r w (fun k => ∃ p ∈ ps, p.block = k) v xs ∧ ∀ x ∈ xs, ok x := by
  obtain ⟨fuel, hf⟩ := h
  obtain ⟨A, n, c, rfl⟩ := hv
  obtain ⟨xs, ⟨v', hv', hl⟩, ho⟩ := openAt_slice ht hr hsz hpos _ _ _ hf
  simp [Value.cells] at hv'
  subst hv'
  exact ⟨xs, hl, ho⟩
end

end Go.Proofs.Ytaalhhgjliofaaa
