/- Words for memory: what a list of cells is read as (Rep), slices of such things, rows that a call owns. No program in sight. -/
import Derived.Test.YtaalhhgjliofaaaIter
import Derived.Maps.OwnIn
import Derived.Maps.AppendAt
import Derived.Deep.AppendLies
set_option linter.unusedVariables false
set_option linter.unusedSimpArgs false
namespace Go.Proofs.Ytaalhhgjliofaaa
open Go.RowKit

theorem below_drewN {B : Nat} {a w : World} (h : Below B a w) (n : Nat) : Below B a (w.drewN n) := h.trans ⟨rfl, rfl, rfl, Nat.le_refl _, fun _ _ => rfl⟩
def bt (l : List UInt8) : ByteArray := ⟨l.toArray⟩
theorem bt_def (l : List UInt8) : (⟨l.toArray⟩ : ByteArray) = bt l := rfl
theorem bt_list (l : List UInt8) : (bt l).data.toList = l := rfl
theorem bt_size (l : List UInt8) : (bt l).size = l.length := by show l.toArray.size = _; simp
theorem bt_of (s : ByteArray) : bt s.data.toList = s := rfl
theorem bt_inj {a b : List UInt8} (h : bt a = bt b) : a = b := by rw [← bt_list a, h, bt_list]

/-- How a thing is read off its cells, in a world; S: the blocks that are looked into. -/
structure Rep (α : Type) where
  sz : Nat
  rd : World → (Nat → Prop) → List Value → α → Prop
  len : ∀ {W S cs x}, rd W S cs x → cs.length = sz
  keep : ∀ {W W' S cs x}, rd W S cs x → (∀ k, S k → W'.heap[k]? = W.heap[k]?) → rd W' S cs x
  mono : ∀ {W S S' cs x}, rd W S cs x → (∀ k, S k → S' k) → rd W S' cs x
  one : ∀ {W S cs x}, rd W S cs x → ∀ u ∈ cs, u.oneCell' = true

/-- A thing that lies in its own cells whole. -/
def Rep.flat {α : Type} (sz : Nat) (enc : α → List Value) (hl : ∀ x, (enc x).length = sz) (ho : ∀ x, ∀ u ∈ enc x, u.oneCell' = true) : Rep α := {
  sz := sz
  rd := fun _ _ cs x => cs = enc x
  len := fun h => by rw [h]; exact hl _
  keep := fun h _ => h
  mono := fun h _ => h
  one := fun h => by rw [h]; exact ho _ }

def strV (l : List UInt8) : Value := .string (bt l)
theorem run_store_strV (P : Program) (w : World) (a : Addr) (l : List UInt8) (m : Mode) : (store a (strV l) m).run P w = stored P w a (strV l) m := run_store P w a _ m rfl
attribute [go_sem] run_store_strV
def strR : Rep (List UInt8) := Rep.flat 1 (fun x => [strV x]) (fun _ => rfl) (fun x u hu => by simp at hu; subst hu; rfl)
def intR : Rep Int := Rep.flat 1 (fun x => [.int .i64 x]) (fun _ => rfl) (fun x u hu => by simp at hu; subst hu; rfl)
def natR : Rep Nat := Rep.flat 1 (fun x => [.int .i64 x]) (fun _ => rfl) (fun x u hu => by simp at hu; subst hu; rfl)
def boolR : Rep Bool := Rep.flat 1 (fun x => [.bool x]) (fun _ => rfl) (fun x u hu => by simp at hu; subst hu; rfl)

def Rep.pair {α β : Type} (r : Rep α) (s : Rep β) : Rep (α × β) := {
  sz := r.sz + s.sz
  rd := fun W S cs x => ∃ a b, cs = a ++ b ∧ r.rd W S a x.1 ∧ s.rd W S b x.2
  len := fun h => by obtain ⟨a, b, rfl, ha, hb⟩ := h; rw [List.length_append, r.len ha, s.len hb]
  keep := fun h hk => by obtain ⟨a, b, rfl, ha, hb⟩ := h; exact ⟨a, b, rfl, r.keep ha hk, s.keep hb hk⟩
  mono := fun h hk => by obtain ⟨a, b, rfl, ha, hb⟩ := h; exact ⟨a, b, rfl, r.mono ha hk, s.mono hb hk⟩
  one := fun h u hu => by
    obtain ⟨a, b, rfl, ha, hb⟩ := h
    rcases List.mem_append.1 hu with h | h
    · exact r.one ha u h
    · exact s.one hb u h }
def Rep.imap {α β : Type} (r : Rep α) (f : β → α) : Rep β := {
  sz := r.sz
  rd := fun W S cs x => r.rd W S cs (f x)
  len := fun h => r.len h
  keep := fun h hk => r.keep h hk
  mono := fun h hk => r.mono h hk
  one := fun h => r.one h }

/-- Things one behind the other. -/
def Chunks {α : Type} (r : Rep α) (W : World) (S : Nat → Prop) : List α → List Value → Prop
  | [], cells => cells = []
  | x :: xs, cells => ∃ cs rest, cells = cs ++ rest ∧ r.rd W S cs x ∧ Chunks r W S xs rest
section
variable {α : Type} {r : Rep α} {W W' : World} {S S' : Nat → Prop}
theorem Chunks.len : ∀ {xs : List α} {cells : List Value}, Chunks r W S xs cells → cells.length = xs.length * r.sz
  | [], _, h => by rw [show _ = [] from h]; simp
  | x :: xs, _, h => by
    obtain ⟨cs, rest, rfl, hc, hr⟩ := h
    rw [List.length_append, r.len hc, hr.len, List.length_cons, Nat.add_mul]; omega
theorem Chunks.keep : ∀ {xs : List α} {cells : List Value}, Chunks r W S xs cells → (∀ k, S k → W'.heap[k]? = W.heap[k]?) → Chunks r W' S xs cells
  | [], _, h, _ => h
  | x :: xs, _, h, hk => by
    obtain ⟨cs, rest, rfl, hc, hr⟩ := h
    exact ⟨cs, rest, rfl, r.keep hc hk, hr.keep hk⟩
theorem Chunks.mono : ∀ {xs : List α} {cells : List Value}, Chunks r W S xs cells → (∀ k, S k → S' k) → Chunks r W S' xs cells
  | [], _, h, _ => h
  | x :: xs, _, h, hk => by
    obtain ⟨cs, rest, rfl, hc, hr⟩ := h
    exact ⟨cs, rest, rfl, r.mono hc hk, hr.mono hk⟩
theorem Chunks.one : ∀ {xs : List α} {cells : List Value}, Chunks r W S xs cells → ∀ u ∈ cells, u.oneCell' = true
  | [], _, h, u, hu => by rw [show _ = [] from h] at hu; cases hu
  | x :: xs, _, h, u, hu => by
    obtain ⟨cs, rest, rfl, hc, hr⟩ := h
    rcases List.mem_append.1 hu with h | h
    · exact r.one hc u h
    · exact hr.one u h
theorem Chunks.append : ∀ {xs ys : List α} {c d : List Value}, Chunks r W S xs c → Chunks r W S ys d → Chunks r W S (xs ++ ys) (c ++ d)
  | [], ys, c, d, h, k => by rw [show c = [] from h]; exact k
  | x :: xs, ys, c, d, h, k => by
    obtain ⟨cs, rest, rfl, hc, hr⟩ := h
    exact ⟨cs, rest ++ d, by simp, hc, hr.append k⟩
theorem Chunks.single {x : α} {cs : List Value} (h : r.rd W S cs x) : Chunks r W S [x] cs := ⟨cs, [], by simp, h, rfl⟩
theorem Chunks.snoc {xs : List α} {x : α} {c cs : List Value} (h : Chunks r W S xs c) (hx : r.rd W S cs x) : Chunks r W S (xs ++ [x]) (c ++ cs) := h.append (.single hx)
theorem Chunks.at_ : ∀ {xs : List α} {cells : List Value} {i : Nat} {x : α}, Chunks r W S xs cells → xs[i]? = some x → ∃ cs, r.rd W S cs x ∧ ∀ j u, cs[j]? = some u → cells[i * r.sz + j]? = some u
  | [], _, i, x, _, hx => by simp at hx
  | y :: xs, _, 0, x, h, hx => by
    obtain ⟨cs, rest, rfl, hc, hr⟩ := h
    simp only [List.getElem?_cons_zero, Option.some.injEq] at hx
    subst hx
    refine ⟨cs, hc, fun j u hu => ?_⟩
    rw [Nat.zero_mul, Nat.zero_add, List.getElem?_append_left (List.getElem?_eq_some_iff.1 hu).1]; exact hu
  | y :: xs, _, i + 1, x, h, hx => by
    obtain ⟨cs, rest, rfl, hc, hr⟩ := h
    simp only [List.getElem?_cons_succ] at hx
    obtain ⟨cs', hc', hat⟩ := hr.at_ hx
    refine ⟨cs', hc', fun j u hu => ?_⟩
    rw [List.getElem?_append_right (by rw [r.len hc, Nat.add_mul]; omega), r.len hc, show (i + 1) * r.sz + j - r.sz = i * r.sz + j by rw [Nat.add_mul]; omega]
    exact hat j u hu
theorem Chunks.split : ∀ {xs ys : List α} {c : List Value}, Chunks r W S (xs ++ ys) c → Chunks r W S xs (c.take (xs.length * r.sz)) ∧ Chunks r W S ys (c.drop (xs.length * r.sz))
  | [], ys, c, h => ⟨by simp [Chunks], by simpa using h⟩
  | x :: xs, ys, c, h => by
    obtain ⟨cs, rest, rfl, hc, hr⟩ := h
    obtain ⟨h1, h2⟩ := hr.split
    have hl := r.len hc
    have e : (x :: xs).length * r.sz = cs.length + xs.length * r.sz := by rw [List.length_cons, Nat.add_mul, hl]; omega
    rw [e]
    exact ⟨⟨cs, _, by rw [List.take_length_add_append], hc, h1⟩, by rw [List.drop_length_add_append]; exact h2⟩
end
theorem list_set3 {β : Type} : ∀ (l : List β) (i : Nat) (a b c : β), i + 3 ≤ l.length → ((l.set i a).set (i + 1) b).set (i + 2) c = l.take i ++ [a, b, c] ++ l.drop (i + 3)
  | x :: y :: z :: l, 0, a, b, c, _ => by simp
  | x :: l, i + 1, a, b, c, h => by
    have := list_set3 l i a b c (by simp at h; omega)
    simp only [List.set_cons_succ, List.take_succ_cons, List.drop_succ_cons, List.cons_append, show i + 1 + 1 = (i + 1) + 1 from rfl, show i + 1 + 2 = (i + 2) + 1 from rfl, show i + 1 + 3 = (i + 3) + 1 from rfl]
    exact congrArg _ this
  | [], 0, a, b, c, h => by simp at h
  | [_], 0, a, b, c, h => by simp at h
  | [_, _], 0, a, b, c, h => by simp at h
theorem list_set2 {β : Type} : ∀ (l : List β) (i : Nat) (a b : β), i + 2 ≤ l.length → (l.set i a).set (i + 1) b = l.take i ++ [a, b] ++ l.drop (i + 2)
  | x :: y :: l, 0, a, b, _ => by simp
  | x :: l, i + 1, a, b, h => by
    have := list_set2 l i a b (by simp at h; omega)
    simp only [List.set_cons_succ, List.take_succ_cons, List.drop_succ_cons, List.cons_append, show i + 1 + 1 = (i + 1) + 1 from rfl, show i + 1 + 2 = (i + 2) + 1 from rfl]
    exact congrArg _ this
  | [], 0, a, b, h => by simp at h
  | [_], 0, a, b, h => by simp at h
section
variable {α : Type} {r : Rep α} {W W' : World} {S S' : Nat → Prop}
theorem Chunks.set_ : ∀ {xs : List α} {cells cs : List Value} {x : α} {k : Nat}, Chunks r W S xs cells → k < xs.length → r.rd W S cs x → Chunks r W S (xs.set k x) (cells.take (k * r.sz) ++ cs ++ cells.drop (k * r.sz + r.sz))
  | y :: xs, _, cs, x, 0, h, _, hx => by
    obtain ⟨c, rest, rfl, hc, hr⟩ := h
    refine ⟨cs, rest, ?_, hx, hr⟩
    have hl := r.len hc
    simp [← hl]
  | y :: xs, _, cs, x, k + 1, h, hk, hx => by
    obtain ⟨c, rest, rfl, hc, hr⟩ := h
    have hl := r.len hc
    have := hr.set_ (by simpa using hk) hx
    refine ⟨c, _, ?_, hc, this⟩
    have e1 : (k + 1) * r.sz = c.length + k * r.sz := by rw [Nat.add_mul, hl]; omega
    rw [e1, show c.length + k * r.sz + r.sz = c.length + (k * r.sz + r.sz) by omega, List.take_length_add_append, List.drop_length_add_append]
    simp [List.append_assoc]
  | [], _, _, _, _, _, hk, _ => by simp at hk
end
theorem chunks_flat {α : Type} {sz : Nat} {enc : α → List Value} {hl ho} {W : World} {S : Nat → Prop} : ∀ {xs : List α} {cells : List Value}, Chunks (Rep.flat sz enc hl ho) W S xs cells ↔ cells = xs.flatMap enc
  | [], _ => Iff.rfl
  | x :: xs, cells => by
    constructor
    · rintro ⟨cs, rest, rfl, hc, hr⟩
      rw [show cs = enc x from hc, (chunks_flat (xs := xs)).1 hr]; rfl
    · rintro rfl
      exact ⟨enc x, xs.flatMap enc, rfl, rfl, (chunks_flat (xs := xs)).2 rfl⟩

/-- The slice value v is read as the list xs. -/
def Lst {α : Type} (r : Rep α) (W : World) (S : Nat → Prop) (v : Value) (xs : List α) : Prop :=
  ∃ A c cells, v = .slice A xs.length c ∧ xs.length ≤ c ∧ c ≤ maxLen ∧ Chunks r W S xs cells ∧
    (0 < xs.length → ∃ ad, A = some ad ∧ S ad.block ∧ ∀ j u, cells[j]? = some u → W.cell? (ad.add j) = some u)
theorem block_add (a : Addr) (n : Nat) : (a.add n).block = a.block := by unfold Addr.add; split <;> rfl
theorem add_add' (a : Addr) (i j : Nat) : (a.add i).add j = a.add (i + j) := by
  unfold Addr.add
  by_cases hi : i = 0 <;> by_cases hj : j = 0 <;> simp [hi, hj, Nat.add_assoc]
theorem add_succ (a : Addr) (p j : Nat) : a.add (p + (j + 1)) = ⟨(a.add p).block, (a.add p).off + (j + 1), none⟩ := by
  rw [← add_add']; rfl
section
variable {α : Type} {r : Rep α} {W W' : World} {S S' : Nat → Prop} {v : Value} {xs : List α}
theorem Lst.nil (r : Rep α) (W : World) (S : Nat → Prop) : Lst r W S (.slice none 0 0) [] := ⟨none, 0, [], rfl, Nat.le_refl _, Nat.zero_le _, rfl, fun h => absurd h (by simp)⟩
theorem Lst.keep (h : Lst r W S v xs) (hk : ∀ k, S k → W'.heap[k]? = W.heap[k]?) : Lst r W' S v xs := by
  obtain ⟨A, c, cells, hv, h1, h2, h3, h4⟩ := h
  refine ⟨A, c, cells, hv, h1, h2, h3.keep hk, fun h => ?_⟩
  obtain ⟨ad, ha, hs, hc⟩ := h4 h
  exact ⟨ad, ha, hs, fun j u hu => (World.cell?_of_block (hk _ (by rw [block_add]; exact hs))).trans (hc j u hu)⟩
theorem Lst.mono (h : Lst r W S v xs) (hk : ∀ k, S k → S' k) : Lst r W S' v xs := by
  obtain ⟨A, c, cells, hv, h1, h2, h3, h4⟩ := h
  refine ⟨A, c, cells, hv, h1, h2, h3.mono hk, fun h => ?_⟩
  obtain ⟨ad, ha, hs, hc⟩ := h4 h
  exact ⟨ad, ha, hk _ hs, hc⟩
/-- Its k-th thing. -/
theorem Lst.at_ {A : Option Addr} {n c : Nat} (h : Lst r W S (.slice A n c) xs) {k : Nat} {x : α} (hk : xs[k]? = some x) :
    ∃ ad cs, A = some ad ∧ S ad.block ∧ r.rd W S cs x ∧ ∀ j u, cs[j]? = some u → W.cell? (ad.add (k * r.sz + j)) = some u := by
  obtain ⟨A', c', cells, hv, h1, h2, h3, h4⟩ := h
  injection hv with e1 e2 e3
  subst e1
  obtain ⟨ad, ha, hs, hc⟩ := h4 (by have := (List.getElem?_eq_some_iff.1 hk).1; omega)
  obtain ⟨cs, hcs, hat⟩ := h3.at_ hk
  exact ⟨ad, cs, ha, hs, hcs, fun j u hu => hc _ _ (hat j u hu)⟩
theorem Lst.shape (h : Lst r W S v xs) : ∃ A c, v = .slice A xs.length c ∧ xs.length ≤ c ∧ c ≤ maxLen := by
  obtain ⟨A, c, cells, hv, h1, h2, _⟩ := h
  exact ⟨A, c, hv, h1, h2⟩
theorem Lst.form (h : Lst r W S v xs) : ∃ A n c, v = .slice A n c ∧ n = xs.length ∧ n ≤ c ∧ c ≤ maxLen := by
  obtain ⟨A, c, cells, hv, h1, h2, _⟩ := h
  exact ⟨A, _, c, hv, rfl, h1, h2⟩
end
def Rep.slice {α : Type} (r : Rep α) : Rep (List α) := {
  sz := 1
  rd := fun W S cs xs => ∃ v, cs = [v] ∧ Lst r W S v xs
  len := fun h => by obtain ⟨v, rfl, _⟩ := h; rfl
  keep := fun h hk => by obtain ⟨v, rfl, hl⟩ := h; exact ⟨v, rfl, hl.keep hk⟩
  mono := fun h hk => by obtain ⟨v, rfl, hl⟩ := h; exact ⟨v, rfl, hl.mono hk⟩
  one := fun h u hu => by
    obtain ⟨v, rfl, A, c, cells, rfl, _⟩ := h
    simp at hu; subst hu; rfl }

/-- The call owns the row v, from block number base on, of the things xs. -/
def Own {α : Type} (r : Rep α) (W : World) (base : Nat) (e : TypeId) (S : Nat → Prop) (v : Value) (xs : List α) : Prop :=
  ∃ cells, W.ownsRow base e r.sz v xs.length cells ∧ Chunks r W S xs cells ∧ ∀ k, v.ownBlock = some k → ¬ S k
theorem ownsRow_same {w w' : World} {base n size : Nat} {e : TypeId} {v : Value} {xs : List Value} (h : w.ownsRow base e size v n xs) (hk : ∀ k, v.ownBlock = some k → w'.heap[k]? = w.heap[k]?) : w'.ownsRow base e size v n xs := by
  refine ⟨h.1, ?_⟩
  rcases h.2 with hn | ⟨g, cap, cur, rfl, hb, hgg, rest⟩
  · exact .inl hn
  · exact .inr ⟨g, cap, cur, rfl, hb, (hk g rfl).trans hgg, rest⟩
section
variable {α : Type} {r : Rep α} {W W' : World} {S S' : Nat → Prop} {v : Value} {xs : List α} {base : Nat} {e : TypeId}
theorem Own.nil (r : Rep α) (W : World) (base : Nat) (e : TypeId) (S : Nat → Prop) : Own r W base e S (.slice none 0 0) [] :=
  ⟨[], World.ownsRow_nil _ _ _ _, rfl, fun k hk => by cases hk⟩
theorem Own.same (h : Own r W base e S v xs) (hk : ∀ k, S k ∨ v.ownBlock = some k → W'.heap[k]? = W.heap[k]?) : Own r W' base e S v xs := by
  obtain ⟨cells, h1, h2, h3⟩ := h
  exact ⟨cells, ownsRow_same h1 (fun k h => hk k (.inr h)), h2.keep (fun k h => hk k (.inl h)), h3⟩
theorem Own.lt (h : Own r W base e S v xs) : ∀ k, v.ownBlock = some k → base ≤ k ∧ k < W.heap.size := by
  obtain ⟨cells, h1, h2, h3⟩ := h
  exact h1.lt
theorem Own.block (h : Own r W base e S v xs) {k : Nat} (hk : v.ownBlock = some k) : ∃ cur, W.heap[k]? = some (.cells cur e (0, 0)) := by
  obtain ⟨cells, h1, h2, h3⟩ := h
  rcases h1.2 with ⟨rfl, _⟩ | ⟨g, cap, cur, rfl, hb, hg, _⟩
  · cases hk
  · injection hk with hk; subst hk; exact ⟨cur, hg⟩
theorem Own.form (h : Own r W base e S v xs) : (v = .slice none 0 0 ∧ xs = []) ∨ ∃ g n c, v = .slice (some ⟨g, 0, none⟩) n c ∧ n = xs.length ∧ n ≤ c ∧ c ≤ maxLen ∧ base ≤ g ∧ ¬ S g := by
  obtain ⟨cells, h1, h2, h3⟩ := h
  rcases h1.2 with ⟨hv, hn⟩ | ⟨g, cap, cur, hv, hb, hg, hnc, hcm, _⟩
  · exact .inl ⟨hv, List.eq_nil_of_length_eq_zero hn⟩
  · exact .inr ⟨g, _, cap, hv, rfl, hnc, hcm, hb, h3 g (by rw [hv]; rfl)⟩
theorem Own.rebase {b : Nat} (h : Own r W base e S v xs) (hb : b ≤ base) : Own r W b e S v xs := by
  obtain ⟨cells, h1, h2, h3⟩ := h
  refine ⟨cells, ⟨h1.1, ?_⟩, h2, h3⟩
  rcases h1.2 with hn | ⟨g, cap, cur, hv, hg, rest⟩
  · exact .inl hn
  · exact .inr ⟨g, cap, cur, hv, by omega, rest⟩
/-- An owned row is read as its list. -/
theorem Own.read (h : Own r W base e S v xs) : Lst r W (fun k => S k ∨ v.ownBlock = some k) v xs := by
  obtain ⟨cells, h1, h2, h3⟩ := h
  rcases h1.2 with ⟨rfl, hn⟩ | ⟨g, cap, cur, rfl, hb, hg, hnc, hcm, hsz, htake⟩
  · have : xs = [] := List.eq_nil_of_length_eq_zero hn
    subst this
    exact Lst.nil _ _ _
  · exact ⟨some ⟨g, 0, none⟩, cap, cells, rfl, hnc, hcm, h2.mono (fun k h => .inl h), fun _ => ⟨⟨g, 0, none⟩, rfl, .inr rfl, h1.cells rfl⟩⟩
end

/-- What a call of append is handed behind the row: things that lie one behind the other. -/
def Src {α : Type} (r : Rep α) (W : World) (S : Nat → Prop) (A : Option Addr) (ys : List α) : Prop :=
  ∃ news, Chunks r W S ys news ∧ (0 < ys.length → ∃ ad, A = some ad ∧ ∀ j u, news[j]? = some u → W.cell? (ad.add j) = some u)
theorem Lst.src {α : Type} {r : Rep α} {W : World} {S : Nat → Prop} {A : Option Addr} {n c : Nat} {xs : List α} (h : Lst r W S (.slice A n c) xs) : n = xs.length ∧ n ≤ c ∧ c ≤ maxLen ∧ Src r W S A xs := by
  obtain ⟨A', c', cells, hv, h1, h2, h3, h4⟩ := h
  injection hv with e1 e2 e3
  subst e1 e2 e3
  refine ⟨rfl, h1, h2, cells, h3, fun h => ?_⟩
  obtain ⟨ad, ha, _, hc⟩ := h4 h
  exact ⟨ad, ha, hc⟩
/-- One thing in a new block. -/
theorem Src.one_new {α : Type} {r : Rep α} {w : World} {S : Nat → Prop} {x : α} {cs : Array Value} (e : TypeId) (h : r.rd w S cs.toList x) (hS : ∀ k, S k → k < w.heap.size) : Src r (w.alloc (.cells cs e)) S (some ⟨w.heap.size, 0, none⟩) [x] := by
  refine ⟨cs.toList, .single (r.keep h (fun k hk => Below.heap_alloc _ _ _ (hS k hk))), fun _ => ⟨_, rfl, fun j u hu => ?_⟩⟩
  have hadd : (⟨w.heap.size, 0, none⟩ : Addr).add j = ⟨w.heap.size, j, none⟩ := by unfold Addr.add; split <;> simp_all
  rw [hadd, cell_of_row _ _ j cs e (0, 0) (World.alloc_heap_new w _)]
  simpa using hu

section
variable {P : Program} {w : World}
theorem run_append_nil (base : Nat) (t ty e : TypeId) (i : TypeInfo) (size : Nat) (ht : P.underlying t = some (.slice e)) (hi : P.info? e = some i)
    (v : Value) (n : Nat) (xs : List Value) (hown : w.ownsRow base e size v n xs) (c : Nat) : (Builtin.append_ #[t, t] ty #[v, .slice none 0 c]).run P w = .ok v w := by
  rcases hown.2 with ⟨rfl, rfl⟩ | ⟨g, cap, cur, rfl, _, _, hnc, _⟩
  · simp [Builtin.append_, run_underlying ht, sizeOf, typeInfo, hi, Builtin.lenOf, Builtin.firstCells]
  · simp [Builtin.append_, run_underlying ht, sizeOf, typeInfo, hi, Builtin.lenOf, Builtin.firstCells, hnc, storeCells]
theorem run_append_own' {α : Type} {r : Rep α} (base : Nat) (t ty e : TypeId) (i : TypeInfo) (z : Value) (bytes : Nat) (ht : P.underlying t = some (.slice e)) (hi : P.info? e = some i) (hz : i.zero = some z)
    (hsize : i.size = r.sz) (hby : i.bytes = bytes) (hzs : z.cells.size = r.sz) (hsz : 0 < r.sz)
    {S : Nat → Prop} (hS : ∀ k, S k → k < w.heap.size) (v : Value) (xs ys : List α) (hown : Own r w base e S v xs) (A : Option Addr) (m c : Nat) (hm : m = ys.length) (hsrc : Src r w S A ys)
    (h63 : xs.length + m ≤ maxLen) (hbytes : (xs.length + m) * bytes ≤ 140737488355328) (hbase : base ≤ w.heap.size) :
    ∃ v' w', (Builtin.append_ #[t, t] ty #[v, .slice A m c]).run P w = .ok v' w' ∧ Own r w' base e S v' (xs ++ ys) ∧ w.grownBy w' v.ownBlock ∧ (v'.ownBlock = v.ownBlock ∨ v'.ownBlock = some w.heap.size) := by
  subst hm
  obtain ⟨cells, h1, h2, h3⟩ := hown
  obtain ⟨news, n1, n2⟩ := hsrc
  rcases A with _ | ad
  · have : ys = [] := by
      rcases ys with _ | ⟨y, ys⟩
      · rfl
      · obtain ⟨_, h, _⟩ := n2 (by simp); cases h
    subst this
    exact ⟨v, w, run_append_nil base t ty e i _ ht hi v _ cells h1 c, ⟨cells, by simpa using h1, by simpa using h2, h3⟩, World.grownBy.refl w _, .inl rfl⟩
  · have hcells : ∀ j u, news[j]? = some u → w.cell? (ad.add j) = some u := by
      intro j u hu
      rcases Nat.eq_zero_or_pos ys.length with h0 | h0
      · have hl := n1.len
        rw [h0, Nat.zero_mul] at hl
        rw [List.eq_nil_of_length_eq_zero hl] at hu
        simp at hu
      · obtain ⟨ad', h, hc⟩ := n2 h0
        injection h with h
        subst h
        exact hc j u hu
    obtain ⟨v', w', hrun, g1, g2, _, g4⟩ := run_append_own_at (P := P) w base t ty e i z r.sz bytes ht hi hz hsize hby hzs hsz v xs.length cells h1 ad ys.length c news n1.len hcells n1.one h63 hbytes hbase
    refine ⟨v', w', hrun, ⟨cells ++ news, by rw [List.length_append]; exact g1, ?_, ?_⟩, g2, g4⟩
    · exact (h2.append n1).keep (fun k hk => g2.block k (hS k hk) (fun h => h3 k h.symm hk))
    · intro k hk hs
      rcases g4 with g4 | g4
      · exact h3 k (g4 ▸ hk) hs
      · rw [g4] at hk; injection hk with hk; have := hS k hs; omega

variable {α : Type} {r : Rep α} {ops : Array Oper} {rest : List Oper} {o : Oper} {a : Act} {Q : Exit → Act → World → Prop}
theorem wpList_append (hgd : o.guard = none) (s x : Operand) (t : TypeId)
    (ho : o.op = .call { callee := .builtin .append, args := #[s, x], argTypes := #[t, t] })
    (base : Nat) (e : TypeId) (i : TypeInfo) (z : Value) (bytes : Nat) (ht : P.underlying t = some (.slice e)) (hi : P.info? e = some i) (hz : i.zero = some z)
    (hsize : i.size = r.sz) (hby : i.bytes = bytes) (hzs : z.cells.size = r.sz) (hsz : 0 < r.sz)
    {S : Nat → Prop} (hS : ∀ k, S k → k < w.heap.size) (v : Value) (xs ys : List α) (hs : a.eval s = v) (hown : Own r w base e S v xs)
    (A : Option Addr) (m c : Nat) (hx : a.eval x = .slice A m c) (hm : m = ys.length) (hsrc : Src r w S A ys)
    (h63 : xs.length + m ≤ maxLen) (hbytes : (xs.length + m) * bytes ≤ 140737488355328) (hbase : base ≤ w.heap.size)
    (h : ∀ v' w', Own r w' base e S v' (xs ++ ys) → w.grownBy w' v.ownBlock → (v'.ownBlock = v.ownBlock ∨ v'.ownBlock = some w.heap.size) → wpList P ops Q rest (a.put o.dst v') w') : wpList P ops Q (o :: rest) a w := by
  refine wpList_plain hgd fun K hK => ?_
  obtain ⟨v', w', hrun, h2, h3, h4⟩ := run_append_own' (P := P) base t o.type e i z bytes ht hi hz hsize hby hzs hsz hS v xs ys hown A m c hm hsrc h63 hbytes hbase
  unfold Oper.wp execOp
  simp only [ho, resolve, invoke, builtin, Sem.run_bind, Sem.run_pure, Result.andThen_ok, List.map_toArray, List.map_cons, List.map_nil, hs, hx, hrun]
  exact hK _ _ (h v' w' h2 h3 h4)
theorem step_append {K : Act → World → Prop} {E : Prop} (hgd : o.guard = none) (s x : Operand) (t : TypeId)
    (ho : o.op = .call { callee := .builtin .append, args := #[s, x], argTypes := #[t, t] })
    (base : Nat) (e : TypeId) (i : TypeInfo) (z : Value) (bytes : Nat) (ht : P.underlying t = some (.slice e)) (hi : P.info? e = some i) (hz : i.zero = some z)
    (hsize : i.size = r.sz) (hby : i.bytes = bytes) (hzs : z.cells.size = r.sz) (hsz : 0 < r.sz)
    {S : Nat → Prop} (hS : ∀ k, S k → k < w.heap.size) (v : Value) (xs ys : List α) (hs : a.eval s = v) (hown : Own r w base e S v xs)
    (A : Option Addr) (m c : Nat) (hx : a.eval x = .slice A m c) (hm : m = ys.length) (hsrc : Src r w S A ys)
    (h63 : xs.length + m ≤ maxLen) (hbytes : (xs.length + m) * bytes ≤ 140737488355328) (hbase : base ≤ w.heap.size)
    (h : ∀ v' w', Own r w' base e S v' (xs ++ ys) → w.grownBy w' v.ownBlock → (v'.ownBlock = v.ownBlock ∨ v'.ownBlock = some w.heap.size) → K (a.put o.dst v') w') :
    if Region.wanted o (yielded ops a.tmps) = true then Oper.wp P o a w K Q else E := by
  have hw : Region.wanted o (yielded ops a.tmps) = true := by simp [Region.wanted, hgd]
  rw [if_pos hw]
  obtain ⟨v', w', hrun, h2, h3, h4⟩ := run_append_own' (P := P) base t o.type e i z bytes ht hi hz hsize hby hzs hsz hS v xs ys hown A m c hm hsrc h63 hbytes hbase
  unfold Oper.wp execOp
  simp only [ho, resolve, invoke, builtin, Sem.run_bind, Sem.run_pure, Result.andThen_ok, List.map_toArray, List.map_cons, List.map_nil, hs, hx, hrun]
  exact h v' w' h2 h3 h4
theorem wpListIn_append {F : Fence} {nF : Nat} (hgd : o.guard = none) (s x : Operand) (t : TypeId)
    (ho : o.op = .call { callee := .builtin .append, args := #[s, x], argTypes := #[t, t] })
    (base : Nat) (e : TypeId) (i : TypeInfo) (z : Value) (bytes : Nat) (ht : P.underlying t = some (.slice e)) (hi : P.info? e = some i) (hz : i.zero = some z)
    (hsize : i.size = r.sz) (hby : i.bytes = bytes) (hzs : z.cells.size = r.sz) (hsz : 0 < r.sz)
    {S : Nat → Prop} (hS : ∀ k, S k → k < w.heap.size) (v : Value) (xs ys : List α) (hs : a.eval s = v) (hown : Own r w base e S v xs)
    (A : Option Addr) (m c : Nat) (hx : a.eval x = .slice A m c) (hm : m = ys.length) (hsrc : Src r w S A ys)
    (h63 : xs.length + m ≤ maxLen) (hbytes : (xs.length + m) * bytes ≤ 140737488355328) (hbase : base ≤ w.heap.size)
    (h : ∀ v' w', Own r w' base e S v' (xs ++ ys) → w.grownBy w' v.ownBlock → (v'.ownBlock = v.ownBlock ∨ v'.ownBlock = some w.heap.size) → wpListIn F nF P ops Q rest (a.put o.dst v') w') : wpListIn F nF P ops Q (o :: rest) a w := by
  refine wpListIn_plain hgd fun K hK => ?_
  obtain ⟨v', w', hrun, h2, h3, h4⟩ := run_append_own' (P := P) base t o.type e i z bytes ht hi hz hsize hby hzs hsz hS v xs ys hown A m c hm hsrc h63 hbytes hbase
  unfold Oper.wpIn
  refine ⟨by simp [Oper.about, ho, resolve, Target.leads, Sem.run_pure], ?_⟩
  rw [Oper.semAt_plain F _ _ (by rw [ho]; intro c hc'; cases hc')]
  simp [execOp, ho, resolve, invoke, builtin, hs, hx, hrun, Result.andThen]
  exact hK _ _ (h v' w' h2 h3 h4)
end

end Go.Proofs.Ytaalhhgjliofaaa
