/- Memory as a resource in the statements' own walks. -/
import Derived.Test.YtmihblocomnfjaaDoorResUse
import Derived.Test.YtmihblocomnfjaaDoorOwn
set_option linter.unusedSimpArgs false
set_option linter.unusedVariables false
namespace Go.Proofs.YtmihblocomnfjaaDoor.Close
open Go Sy
set_option maxRecDepth 100000
abbrev NoOld : Nat → Prop := fun _ => False
theorem res_old {W w : World} {F : List (Nat × TypeId × List Value)} {L : List (Nat × Nat × Value)} {V : List Vec} (h : Res W NoOld F L V w) : Old W w := old_of_sub (h.sub.mono fun _ _ hh => hh.elim)
theorem no_old {ro : List (Nat × Nat × Value)} : ∀ x ∈ ro, ¬ NoOld x.1 := fun _ _ h => h
/-- Cells of an element that was handed in, beside the table. -/
theorem ro_elem {W : World} (hU : UsesAt W) {ab ao s i : Nat} {row : List Value} (he : Elem W (some ⟨ab, ao, none⟩) s i row) (ps : List (Nat × Value)) (h1 : ∀ p ∈ ps, row[p.1]? = some p.2 ∧ ∀ z, p.2 ≠ .bool z) (h2 : (ps.map Prod.fst).Nodup) : Sy.Looks W (elemL ab ao s i ps usesC) :=
  elem_looks (Old.start W) (looksUses hU) far_uses he ps h1 h2
theorem ro_elem' {W : World} {ab ao s i : Nat} {row : List Value} (he : Elem W (some ⟨ab, ao, none⟩) s i row) (ps : List (Nat × Value)) (h1 : ∀ p ∈ ps, row[p.1]? = some p.2 ∧ ∀ z, p.2 ≠ .bool z) (h2 : (ps.map Prod.fst).Nodup) : Sy.Looks W (elemL ab ao s i ps []) :=
  elem_looks (Old.start W) (Looks.nil W) (fun _ h => by cases h) he ps h1 h2
/-- A slice that was handed in, whole: of no bools. -/
theorem ro_slice {W : World} {U : Type} {row : U → List Value} {s : Nat} {b off : Nat} {us : List U} (hs : ∀ u, (row u).length = s) (hpos : 0 < s) (h : ∀ i u, us[i]? = some u → Elem W (some ⟨b, off, none⟩) s i (row u)) (hlt : b < W.heap.size) (hb : ∀ u, ∀ v ∈ row u, ∀ z, v ≠ .bool z) (hU : UsesAt W) :
    RoW W NoOld usesC ⟨⟨b, off, none⟩, us.flatMap row⟩ := by
  refine ⟨rfl, hlt, id, fun j u hu => ?_⟩
  have hj := (List.getElem?_eq_some_iff.1 hu).1
  simp only at hj hu ⊢
  rw [flatMap_len hs] at hj
  obtain ⟨q, r, hr, rfl⟩ : ∃ q r, r < s ∧ j = q * s + r := ⟨j / s, j % s, Nat.mod_lt _ hpos, by rw [Nat.mul_comm]; exact (Nat.div_add_mod j s).symm⟩
  have hq : q < us.length := by
    rcases Nat.lt_or_ge q us.length with hq | hq
    · exact hq
    · have := Nat.mul_le_mul_right s hq
      omega
  have hx : us[q]? = some us[q] := List.getElem?_eq_getElem hq
  rw [flatMap_map, flat_at (s := s) (r := row us[q]) (fun r hr => by obtain ⟨u, _, rfl⟩ := List.mem_map.1 hr; exact hs u) (by rw [List.getElem?_map, hx]; rfl) hr] at hu
  obtain ⟨b', off', e, _, hc⟩ := h q _ hx
  simp only [Option.some.injEq, Addr.mk.injEq, and_true] at e
  obtain ⟨rfl, rfl⟩ := e
  have := hc r u hu
  rw [Nat.add_assoc] at this
  refine ⟨this.1, this.2, fun y hy hh => ?_⟩
  have hl := (looksUses hU).cell y hy
  rw [hh.1, hh.2, this.1] at hl
  obtain ⟨z, hz⟩ : ∃ z, y.2.2 = .bool z := by
    have hf := far_uses (W := W) y hy
    rcases hf with hf | hf
    · rw [hh.1] at hf; omega
    · exact hf
  exact hb _ u (List.mem_of_getElem? hu) z ((Option.some.inj hl.1).trans hz)
theorem perm3 {α : Type} (A B C : List α) : (A ++ (B ++ C)).Perm (B ++ (C ++ A)) := by
  rw [← List.append_assoc B C A]
  exact List.perm_append_comm
theorem perm_in {α : Type} {A B C : List α} (h : B.Perm C) : (A ++ B).Perm (A ++ C) := h.append_left A
theorem ownsR_nil (w : World) (e s : Nat) : w.ownsRow 0 e s (.slice none 0 0) 0 [] := World.ownsRow_nil ..
/-- An empty slice more. -/
theorem res_nil {W w : World} {O : Nat → Prop} {F : List (Nat × TypeId × List Value)} {L : List (Nat × Nat × Value)} {V : List Vec} (h : Res W O F L V w) (e s : Nat) : Res W O F L (⟨e, s, .slice none 0 0, 0, []⟩ :: V) w := by
  obtain ⟨⟨h1, h2, h3, h4, h5, h6, h7, h8, h9, _⟩, i1, i2, i3, i4⟩ := h
  refine ⟨⟨h1, h2, h3, h4, h5, h6, fun x hx => ?_, fun x hx g hg => ?_, List.pairwise_cons.2 ⟨fun y _ g hg => (by cases hg), h9⟩, by simp⟩, i1, i2, fun x hx g hg => ?_, i4⟩
  · rcases List.mem_cons.1 hx with rfl | hx
    · exact ownsR_nil w e s
    · exact h7 x hx
  · rcases List.mem_cons.1 hx with rfl | hx
    · cases hg
    · exact h8 x hx g hg
  · rcases List.mem_cons.1 hx with rfl | hx
    · cases hg
    · exact i3 x hx g hg
theorem res_len {W w : World} {O : Nat → Prop} {F : List (Nat × TypeId × List Value)} {L : List (Nat × Nat × Value)} {V : List Vec} (h : Res W O F L V w) {e s n c : Nat} {so : Option Addr} {xs : List Value} (hx : (⟨e, s, .slice so n c, n, xs⟩ : Vec) ∈ V) : n ≤ maxLen ∧ xs.length = n * s ∧ (0 < n → ∃ g, so = some ⟨g, 0, none⟩) := by
  have h1 := h.met.vecs _ hx
  refine ⟨?_, h1.1, fun hn => ?_⟩
  · rcases h1.2 with ⟨_, h2⟩ | ⟨g, cap, cur, e1, _, _, h4, h5, _⟩
    · simp only at h2; omega
    · exact Nat.le_trans h4 h5
  · rcases h1.2 with ⟨_, h2⟩ | ⟨g, cap, cur, e1, _⟩
    · simp only at h2; omega
    · simp only [Value.slice.injEq] at e1; exact ⟨g, e1.1⟩
end Go.Proofs.YtmihblocomnfjaaDoor.Close
