/- Contracts of the program's disk (silo/disk): a file is put in its place. -/
import Derived.Test.YtaalhhgjliofaaaClone
import Derived.Test.YtaalhhgjliofaaaRel
set_option linter.unusedVariables false
set_option linter.unusedSimpArgs false
set_option maxRecDepth 100000
namespace Go.Proofs.Ytaalhhgjliofaaa
open Go.RowKit Go.Shelf

/-- slices.Insert behind the last one. -/
theorem insert_end (S : Nat → Prop) (base : Nat) (v : Value) (fs : List FileM) (x : FileM) (ad : Addr) (w : World) (ho : Own fileR w base 46 S v fs) (hS : ∀ k, S k → k < w.heap.size) (hbase : base ≤ w.heap.size) (hlen : fs.length ≤ 1000000)
    (hx : Src fileR w S (some ad) [x]) :
    Calls Try.prog 54 #[v, .int .i64 fs.length, .slice (some ad) 1 1] w fun e w' =>
      ∃ v', e = .returned v' ∧ Own fileR w' base 46 S v' (fs ++ [x]) ∧ w.grownBy w' v.ownBlock ∧ (v'.ownBlock = v.ownBlock ∨ v'.ownBlock = some w.heap.size) := by
  obtain ⟨i0, hi0, hz0, hz1, hz2⟩ := info_parts info_files
  have fin : ∀ v w1 v' w', Own fileR w' base 46 S v' (fs ++ [x]) → w.grownBy w' (Value.ownBlock v) → (v'.ownBlock = v.ownBlock ∨ v'.ownBlock = some w.heap.size) → w1 = w' →
    ∃ v'', Ending.returned v' = .returned v'' ∧ Own fileR w1 base 46 S v'' (fs ++ [x]) ∧ w.grownBy w1 v.ownBlock ∧ (v''.ownBlock = v.ownBlock ∨ v''.ownBlock = some w.heap.size) := fun v w1 v' w' h1 h2 h3 e => ⟨v', rfl, e ▸ h1, e ▸ h2, h3⟩
  have FIN := Lib.hid fin
  have B1 := Lib.hid (show fs.length + 1 ≤ maxLen by unfold maxLen; omega)
  have B2 := Lib.hid (show (fs.length + 1) * 56 ≤ 140737488355328 by omega)
  have HX := Lib.hid hx
  clear hx fin
  rcases ho.form with ⟨rfl, rfl⟩ | ⟨g, n, c, rfl, hn, hnc, hcm, hg, -⟩
  · have HO := Lib.hid ho
    clear ho hlen
    go_enter Try.func54, Try.ntmps54
    go_wp2_with (at_builtin; refine wpList_append (r := fileR) rfl (.tmp 23) (.tmp 24) _ rfl base 46 i0 _ 56 Try.underlying26 hi0 hz0 hz1 hz2 rfl (by decide) (S := S) hS (.slice none 0 0) [] [x] rfl HO.out (some ad) 1 1 rfl rfl HX.out (by simp [maxLen]) (by simp) hbase ?_)
    intro v2 w2 ho2 hg2 hat2
    go_wp2_with fail
    go_ret
    exact FIN.out _ _ _ _ ho2 hg2 hat2 rfl
  · have HO := Lib.hid ho
    have HN := Lib.hid hn
    rw [← hn]
    have hlen : n ≤ 1000000 := by omega
    clear ho hn
    have hd : ((n : Int) == n) = true := by simp
    by_cases hcn : c = n
    · subst hcn
      go_enter Try.func54, Try.ntmps54
      go_wp2_with (at_builtin; refine wpList_append (r := fileR) rfl (.tmp 23) (.tmp 24) _ rfl base 46 i0 _ 56 Try.underlying26 hi0 hz0 hz1 hz2 rfl (by decide) (S := S) hS (.slice (some ⟨g, 0, none⟩) c c) fs [x] rfl HO.out (some ad) 1 1 rfl rfl HX.out B1.out B2.out hbase ?_)
      intro v2 w2 ho2 hg2 hat2
      go_wp2_with fail
      go_ret
      exact FIN.out _ _ _ _ ho2 hg2 hat2 rfl
    · go_enter Try.func54, Try.ntmps54
      go_wp2_with (at_builtin; refine wpList_append (r := fileR) rfl (.tmp 23) (.tmp 24) _ rfl base 46 i0 _ 56 Try.underlying26 hi0 hz0 hz1 hz2 rfl (by decide) (S := S) hS (.slice (some ⟨g, 0, none⟩) n c) fs [x] rfl HO.out (some ad) 1 1 rfl rfl HX.out B1.out B2.out hbase ?_)
      intro v2 w2 ho2 hg2 hat2
      go_wp2_with fail
      go_ret
      exact FIN.out _ _ _ _ ho2 hg2 hat2 rfl

theorem own_set3 {α : Type} {r : Rep α} (h3 : r.sz = 3) {W : World} {base g n c : Nat} {e : TypeId} {S : Nat → Prop} {xs : List α} {x : α} {k : Nat} {a b d : Value} (ho : Own r W base e S (.slice (some ⟨g, 0, none⟩) n c) xs) (hn : n = xs.length) (hk : k < n) (hx : r.rd W S [a, b, d] x) :
    Own r (((W.setCell ⟨g, k * 3, none⟩ a).setCell ⟨g, k * 3 + 1, none⟩ b).setCell ⟨g, k * 3 + 2, none⟩ d) base e S (.slice (some ⟨g, 0, none⟩) n c) (xs.set k x) := by
  obtain ⟨cells, h1, h2, h4⟩ := ho
  subst hn
  have hcl := h2.len
  have hng := h4 g rfl
  have h5 := ((h1.stored (k * 3) a).1.stored (k * 3 + 1) b).1.stored (k * 3 + 2) d
  rw [list_set3 _ _ _ _ _ (by rw [hcl, h3]; omega)] at h5
  refine ⟨_, by rw [List.length_set]; exact h5.1, ?_, h4⟩
  have h6 := h2.set_ hk hx
  rw [h3] at h6
  refine h6.keep (fun j hj => ?_)
  have hj2 : j ≠ g := fun e => hng (e ▸ hj)
  exact ((Below.heap_setCell _ ⟨g, _, none⟩ _ _ hj2).trans (Below.heap_setCell _ ⟨g, _, none⟩ _ _ hj2)).trans (Below.heap_setCell _ ⟨g, _, none⟩ _ _ hj2)

/-- The call of Insert in set: what it leaves. -/
theorem insert_into {S : Nat → Prop} {base b n c : Nat} {A : Option Addr} {off : Bool} {fuse : Int} {fs : List FileM} {x : FileM} {v : Value} {w w2 W0 : World} (hm2 : Mach w2 b (.slice A n c) off fuse) (hblt : b < w.heap.size) (hb12 : Below w.heap.size w w2)
    (hS : ∀ k, S k → k < w.heap.size) (hn : n = fs.length) (hlen : fs.length ≤ 1000000) (ho : Own fileR w2 base 46 S (.slice A n c) fs) (hv : Lst opR w2 S v x.ops) (hbase : base ≤ w.heap.size) (hlt : ∀ k, (Value.slice A n c).ownBlock = some k → k < w.heap.size) (hbS : ¬ S b)
    (hW : W0 = (w2.alloc (.cells #[strV x.name, strV x.data, v] 46)).drew ∨ W0 = w2.drew.alloc (.cells #[strV x.name, strV x.data, v] 46)) :
    Calls Try.prog 54 #[.slice A n c, .int .i64 n, .slice (some ⟨w2.heap.size, 0, none⟩) 1 1] W0 fun e w3 => ∃ A3 n3 c3, e = .returned (.slice A3 n3 c3) ∧ w3.cell? ⟨b, 0, none⟩ = some (.slice A n c) ∧ w3.frozen? ⟨b, 0, none⟩ = false ∧
      Mach (w3.setCell ⟨b, 0, none⟩ (.slice A3 n3 c3)) b (.slice A3 n3 c3) off fuse ∧ Own fileR (w3.setCell ⟨b, 0, none⟩ (.slice A3 n3 c3)) base 46 S (.slice A3 n3 c3) (fs ++ [x]) ∧
      Mods (fun k => k = b ∨ (Value.slice A n c).ownBlock = some k) w (w3.setCell ⟨b, 0, none⟩ (.slice A3 n3 c3)) ∧ ((Value.slice A3 n3 c3).ownBlock = (Value.slice A n c).ownBlock ∨ ∃ k, (Value.slice A3 n3 c3).ownBlock = some k ∧ w.heap.size ≤ k) := by
  subst hn
  have hz := hb12.size
  have hb0 : Below w2.heap.size w2 W0 := by
    rcases hW with rfl | rfl
    · exact Below.drew ((Below.refl _ w2).alloc (Nat.le_refl _) _)
    · exact (Below.drew (Below.refl _ w2)).alloc (Nat.le_refl _) _
  have hsz : W0.heap.size = w2.heap.size + 1 := by 
    rcases hW with rfl | rfl
    · exact World.size_alloc w2 _
    · exact World.size_alloc w2.drew _
  have hnew : W0.heap[w2.heap.size]? = some (.cells #[strV x.name, strV x.data, v] 46 (0, 0)) := by
    rcases hW with rfl | rfl
    · exact World.alloc_heap_new w2 _
    · exact World.alloc_heap_new w2.drew _
  have hS0 : ∀ k, S k → k < W0.heap.size := fun k hk => by have := hS k hk; omega
  have ho0 : Own fileR W0 base 46 S (.slice A fs.length c) fs := ho.same (fun k hk => hb0.block k (by
    rcases hk with h | h
    · have := hS k h; omega
    · have := hlt k h; omega))
  have hsrc : Src fileR W0 S (some ⟨w2.heap.size, 0, none⟩) [x] := by
    refine ⟨[strV x.name, strV x.data, v], .single (fileR_rd.2 ⟨v, rfl, hv.keep (fun k hk => hb0.block k (by have := hS k hk; omega))⟩), fun _ => ⟨_, rfl, fun j u hu => ?_⟩⟩
    have hadd : (⟨w2.heap.size, 0, none⟩ : Addr).add j = ⟨w2.heap.size, j, none⟩ := by unfold Addr.add; split <;> simp_all
    rw [hadd, cell_of_row _ _ j _ _ _ hnew]
    simpa using hu
  refine (insert_end S base _ fs x _ W0 ho0 hS0 (by omega) hlen hsrc).mono ?_
  rintro e w3 ⟨v', rfl, ho3, hg3, hat3⟩
  obtain ⟨A3, n3, c3, rfl, -⟩ := ho3.read.form
  have hb3 : (Value.slice A fs.length c).ownBlock ≠ some b := by
    intro h
    obtain ⟨cur, hcur⟩ := ho.block h
    rw [hm2] at hcur
    injection hcur with hcur
    injection hcur with _ hcur
    exact absurd hcur (by decide)
  have hm3 : Mach w3 b (.slice A fs.length c) off fuse := (hg3.block b (by omega) (fun h => hb3 h.symm)).trans ((hb0.block b (by omega)).trans hm2)
  refine ⟨A3, n3, c3, rfl, cell_of_row w3 _ 0 _ _ _ hm3, frozen_of_row w3 b 0 _ _ hm3, ?_, ?_, ?_, ?_⟩
  · have := heap_setCell_same w3 b 0 _ _ (.slice A3 n3 c3) hm3
    simpa using this
  · refine ho3.same (fun k hk => Below.heap_setCell _ _ _ _ ?_)
    rintro rfl
    rcases hk with h | h
    · exact hbS h
    · obtain ⟨cur, hcur⟩ := ho3.block h
      rw [hm3] at hcur
      injection hcur with hcur
      injection hcur with _ hcur
      exact absurd hcur (by decide)
  · exact ((mods_of_below (hb12.trans (hb0.mono hz))).trans (mods_of_grownBy hg3 (fun k hk _ => .inr hk))).trans (Mods.setCell _ (fun _ => .inl rfl) _)
  · rcases hat3 with h | h
    · exact .inl h
    · exact .inr ⟨_, h, by omega⟩

set_option maxHeartbeats 1000000 in
theorem set_any (S : Nat → Prop) (base b : Nat) (fv : Value) (off : Bool) (fuse : Int) (fs : List FileM) (f : FileM) (v : Value) (w : World) (hm : Mach w b fv off fuse) (ho : Own fileR w base 46 S fv fs) (hS : ∀ k, S k → k < w.heap.size) (hbS : ¬ S b)
    (hbase : base ≤ w.heap.size) (hlen : fs.length ≤ 1000000) (hv : Lst opR w S v f.ops) (hk : (bsL (fs.map (·.name)) f.name).2 = true ∨ (bsL (fs.map (·.name)) f.name).1 = fs.length) :
    Calls Try.prog 39 #[.pointer (some ⟨b, 0, none⟩), .agg #[strV f.name, strV f.data, v]] w fun e w' =>
      ∃ fv', e = .returned (.tuple #[]) ∧ Mach w' b fv' off fuse ∧ Own fileR w' base 46 S fv' (setF fs f) ∧ Mods (fun k => k = b ∨ fv.ownBlock = some k) w w' ∧ (fv'.ownBlock = fv.ownBlock ∨ ∃ k, fv'.ownBlock = some k ∧ w.heap.size ≤ k) := by
  obtain ⟨A, n, c, rfl, hn, hnc, hcm⟩ := ho.read.form
  have HN := Lib.hid hn
  have HK := Lib.hid hk
  clear hn hk
  obtain ⟨A', n', c', rfl, hn', hnc', hcm'⟩ := hv.form
  have HN' := Lib.hid hn'
  clear hn'
  obtain ⟨w1, hw1⟩ : ∃ w1, w.alloc (.cells #[strV f.name, strV f.data, .slice A' n' c'] 46) = w1 := ⟨_, rfl⟩
  have hb1 : Below w.heap.size w w1 := by rw [← hw1]; exact (Below.refl _ w).alloc (Nat.le_refl _) _
  have hs1 : w1.heap.size = w.heap.size + 1 := by rw [← hw1]; simp
  have hblt : b < w.heap.size := (Array.getElem?_eq_some_iff.1 hm).1
  have hf1 : w1.heap[w.heap.size]? = some (.cells #[strV f.name, strV f.data, .slice A' n' c'] 46 (0, 0)) := by rw [← hw1]; exact World.alloc_heap_new w _
  have hm1 : Mach w1 b (.slice A n c) off fuse := (hb1.block b hblt).trans hm
  have hl1 : Lst fileR w1 (fun k => S k ∨ (Value.slice A n c).ownBlock = some k) (.slice A n c) fs := ho.read.keep (fun k hk => hb1.block k (by rcases hk with h | h; exact hS k h; exact (ho.lt k h).2))
  have c0 : w1.cell? ⟨w.heap.size, 0, none⟩ = some (strV f.name) := cell_of_row w1 _ 0 _ _ _ hf1
  go_enter Try.func39, Try.ntmps39
  go_wp2_with fail
  refine (at_any _ b _ off fuse fs f.name w1 hm1 hl1 (fun k hk => by rcases hk with h | h; have := hS k h; omega; have := (ho.lt k h).2; omega) hlen).mono ?_
  rintro e w2 ⟨rfl, hb2⟩
  have hm2 : Mach w2 b (.slice A n c) off fuse := (hb2.block b (by omega)).trans hm1
  have hf2 : w2.heap[w.heap.size]? = some (.cells #[strV f.name, strV f.data, .slice A' n' c'] 46 (0, 0)) := (hb2.block _ (by omega)).trans hf1
  have hb12 := hb1.trans (hb2.mono hb1.size)
  clear hw1 hm1 hf1 c0
  have c0 : w2.cell? ⟨w.heap.size, 0, none⟩ = some (strV f.name) := cell_of_row w2 _ 0 _ _ _ hf2
  have c1 : w2.cell? ⟨w.heap.size, 1, none⟩ = some (strV f.data) := cell_of_row w2 _ 1 _ _ _ hf2
  have c2 : w2.cell? ⟨w.heap.size, 2, none⟩ = some (.slice A' n' c') := cell_of_row w2 _ 2 _ _ _ hf2
  have m0 : w2.cell? ⟨b, 0, none⟩ = some (.slice A n c) := cell_of_row w2 _ 0 _ _ _ hm2
  have mf : w2.frozen? ⟨b, 0, none⟩ = false := frozen_of_row w2 b 0 _ _ hm2
  have mixed : Try.prog.follows .mixedOrders = true := by kernel_rfl
  cases hfind : (bsL (fs.map (·.name)) f.name).2 with
  | true =>
    obtain ⟨x, hx, -⟩ := DiskM.found (d := ⟨fs, off, fuse⟩) hfind
    have hset : Hid (setF fs f = fs.set (bsL (fs.map (·.name)) f.name).1 f) := by unfold setF; rw [hfind]; rfl
    have hkl : (bsL (fs.map (·.name)) f.name).1 < fs.length := (List.getElem?_eq_some_iff.1 hx).1
    clear hx HK
    generalize (bsL (fs.map (·.name)) f.name).1 = k at *
    have hkn : k < n := by have := HN.out; omega
    rcases ho.form with ⟨he, rfl⟩ | ⟨g, n0, c0', he, -, -, -, hg, hgS⟩
    · simp at hkl
    · injection he with e1 e2 e3
      subst e1 e2 e3
      obtain ⟨ad, had⟩ : ∃ ad : Addr, ad = ⟨g, 0, none⟩ := ⟨_, rfl⟩
      have hown2 : Own fileR w2 base 46 S (.slice (some ⟨g, 0, none⟩) n c) fs := ho.same (fun k hk => hb12.block k (by rcases hk with h | h; exact hS k h; exact (ho.lt k h).2))
      have OWN := Lib.hid hown2
      rw [← had] at m0
      have a0 : ad.add (k * 3) = ⟨g, k * 3, none⟩ := by rw [had]; unfold Addr.add; split <;> simp_all
      have hnl := HN.out
      have fz : ∀ j, w2.frozen? ⟨g, j, none⟩ = false := by
        obtain ⟨cells, h1, -⟩ := hown2
        rw [← hnl] at h1
        exact h1.frozenAt
      have cz : ∀ j, j < n * 3 → ∃ u, w2.cell? ⟨g, j, none⟩ = some u := by
        intro j hj
        obtain ⟨cells, h1, -⟩ := hown2
        rw [← hnl] at h1
        rw [h1.cellAt j hj]
        exact ⟨_, List.getElem?_eq_getElem (by rw [h1.1]; exact hj)⟩
      obtain ⟨u0, q0⟩ := cz (k * 3) (by omega)
      obtain ⟨u1, q1⟩ := cz (k * 3 + 1) (by omega)
      obtain ⟨u2, q2⟩ := cz (k * 3 + 2) (by omega)
      have f0 := fz (k * 3)
      have f1 := fz (k * 3 + 1)
      have f2 := fz (k * 3 + 2)
      have HAD := Lib.hid had
      clear hown2 fz cz had hnl
      go_wp2_with fail
      apply wp_once
      case h =>
        go_region
        all_goals exact ⟨rfl, rfl⟩
      go_wp2_with fail
      refine bodyPost_ret (results_none rfl _ _ _) rfl ?_
      have hgb : g ≠ b := by
        rintro rfl
        obtain ⟨cur, hcur⟩ := OWN.out.block (k := g) rfl
        rw [hm2] at hcur
        injection hcur with hcur
        injection hcur with _ hcur
        exact absurd hcur (by decide)
      have hgl : g < w.heap.size := (ho.lt g rfl).2
      refine ⟨.slice (some ⟨g, 0, none⟩) n c, rfl, ?_, ?_, ?_, .inl rfl⟩
      · exact ((Below.heap_setCell _ _ _ _ (by simp; exact fun h => hgb h.symm)).trans (Below.heap_setCell _ _ _ _ (by simp; exact fun h => hgb h.symm))).trans ((Below.heap_setCell _ _ _ _ (by simp; exact fun h => hgb h.symm)).trans hm2)
      · rw [hset.out]
        exact (own_set3 rfl OWN.out HN.out hkn (fileR_rd.2 ⟨_, rfl, hv.keep (fun k hk => hb12.block k (hS k hk))⟩)).same (fun k hk => rfl)
      · exact (((mods_of_below hb12).trans (Mods.setCell _ (fun _ => .inr rfl) _)).trans (Mods.setCell _ (fun _ => .inr rfl) _)).trans ((Mods.setCell _ (fun _ => .inr rfl) _).trans (Mods.drew _ _))
  | false =>
    have hkl : (bsL (fs.map (·.name)) f.name).1 = n := by
      have := HK.out
      rw [hfind] at this
      have hn := HN.out
      simp at this; omega
    have hset : Hid (setF fs f = fs ++ [f]) := by unfold setF; rw [hfind]; rfl
    have OWN := Lib.hid (ho.same (fun k hk => hb12.block k (by rcases hk with h | h; exact hS k h; exact (ho.lt k h).2)))
    have HI := Lib.hid (fun W0 (hW : W0 = (w2.alloc (.cells #[strV f.name, strV f.data, .slice A' n' c'] 46)).drew ∨ W0 = w2.drew.alloc (.cells #[strV f.name, strV f.data, .slice A' n' c'] 46)) =>
      insert_into (x := f) hm2 hblt hb12 hS HN.out hlen OWN.out (hv.keep (fun k hk => hb12.block k (hS k hk))) hbase (fun k hk => (ho.lt k hk).2) hbS hW)
    have hbl2 : b < w2.heap.size := by have := hb12.size; omega
    have hwl2 : w.heap.size < w2.heap.size := by have := hb2.size; omega
    go_wp2_with fail
    go_region_with (go_at_call 54; refine (HI.out _ (by first | exact .inl rfl | exact .inr rfl)).mono ?_; rintro e w3 ⟨A3, n3, c3, rfl, m3, mf3, hfin⟩; have HE := Lib.hid hfin; clear hfin)
    all_goals go_wp2_with fail
    all_goals go_end0
    all_goals exact ⟨_, rfl, HE.out.1, by rw [hset.out]; exact HE.out.2.1, HE.out.2.2.1, HE.out.2.2.2⟩

end Go.Proofs.Ytaalhhgjliofaaa
