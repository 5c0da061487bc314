/- Memory of a walk's own: known cells in new blocks, beside what never changes. -/
import Derived.Test.YtmihblocomnfjaaDoorLaw
import Derived.Test.YtmihblocomnfjaaDoorCellsB
set_option linter.unusedSimpArgs false
set_option linter.unusedVariables false
namespace Go.Proofs.YtmihblocomnfjaaDoor.Close
open Go Sy
set_option maxRecDepth 100000
def intRow (z : Int) : List Value := [.int .i64 z]
def u64Row (z : Int) : List Value := [.int .u64 z]
/-- A struct of whole numbers that is handed in by value. -/
def aggInts (P : Program) (t : TypeId) (ks : List IntKind) : Bool :=
  (match P.underlying t with | some (.struct _) => true | _ => false) && (match P.cellTypes P.depth t with
    | some ts => decide (ts.length = ks.length) && decide (P.cellsOf t = ks.length) && (List.range ks.length).all (fun i => match ts[i]?, ks[i]? with
      | some u, some k => (match P.underlying u with | some (.int k') => decide (k' = k) | _ => false)
      | _, _ => false)
    | none => false)
theorem agg_cell {P : Program} {w : World} {base : Nat} {t : TypeId} {v : Value} {ks : List IntKind} (h : Value.okWide P w .any base t v) (hB : aggInts P t ks = true) : ∃ l : List Value, v = .agg ⟨l⟩ ∧ l.length = ks.length ∧ ∀ (i : Nat) k, ks[i]? = some k → ∃ z, l[i]? = some (.int k z) := by
  unfold aggInts at hB
  simp only [Bool.and_eq_true] at hB
  obtain ⟨h1, h2⟩ := hB
  unfold Value.okWide at h
  split at h1
  · rename_i fs hu
    rw [hu] at h
    simp only at h
    obtain ⟨cs, rfl, hs, ts, hts, _, hc⟩ := h
    rw [hts] at h2
    simp only [Bool.and_eq_true, decide_eq_true_eq, List.all_eq_true, List.mem_range] at h2
    obtain ⟨⟨h3, h4⟩, h5⟩ := h2
    obtain ⟨l⟩ := cs
    have hl : l.length = ks.length := by rw [← h4, ← hs]; simp
    refine ⟨l, rfl, hl, fun i k hk => ?_⟩
    have hi : i < ks.length := (List.getElem?_eq_some_iff.1 hk).1
    have h6 := h5 i hi
    rw [hk] at h6
    have e1 : ts[i]? = some ts[i] := List.getElem?_eq_getElem (by omega)
    rw [e1] at h6
    simp only at h6
    split at h6
    · rename_i k' hu'
      simp only [decide_eq_true_eq] at h6
      subst h6
      obtain ⟨u, e2, h7⟩ := hc i l[i] (by simp [List.getElem?_eq_getElem (show i < l.length by omega)])
      rw [Nat.mod_eq_of_lt (by omega), e1] at e2
      cases e2
      unfold Cell.okWide at h7
      rw [hu'] at h7
      rw [List.getElem?_eq_getElem (show i < l.length by omega)]
      revert h7
      cases l[i] <;> intro h7 <;> simp only [Cell.ok, hu'] at h7
      exact ⟨_, by rw [h7.1]⟩
    · cases h6
  · cases h1
theorem agg3 {P : Program} {w : World} {base : Nat} {t : TypeId} {v : Value} {k1 k2 k3 : IntKind} (h : Value.okWide P w .any base t v) (hB : aggInts P t [k1, k2, k3] = true) : ∃ a b c, v = .agg #[.int k1 a, .int k2 b, .int k3 c] := by
  obtain ⟨l, rfl, hl, hc⟩ := agg_cell h hB
  match l, hl with
  | [x, y, z], _ =>
    obtain ⟨a, ha⟩ := hc 0 _ rfl
    obtain ⟨b, hb⟩ := hc 1 _ rfl
    obtain ⟨c, hc⟩ := hc 2 _ rfl
    simp only [List.getElem?_cons_zero, List.getElem?_cons_succ, Option.some.injEq] at ha hb hc
    exact ⟨a, b, c, by rw [ha, hb, hc]⟩
theorem agg2 {P : Program} {w : World} {base : Nat} {t : TypeId} {v : Value} {k1 k2 : IntKind} (h : Value.okWide P w .any base t v) (hB : aggInts P t [k1, k2] = true) : ∃ a b, v = .agg #[.int k1 a, .int k2 b] := by
  obtain ⟨l, rfl, hl, hc⟩ := agg_cell h hB
  match l, hl with
  | [x, y], _ =>
    obtain ⟨a, ha⟩ := hc 0 _ rfl
    obtain ⟨b, hb⟩ := hc 1 _ rfl
    simp only [List.getElem?_cons_zero, List.getElem?_cons_succ, Option.some.injEq] at ha hb
    exact ⟨a, b, by rw [ha, hb]⟩
theorem agg4 {P : Program} {w : World} {base : Nat} {t : TypeId} {v : Value} {k1 k2 k3 k4 : IntKind} (h : Value.okWide P w .any base t v) (hB : aggInts P t [k1, k2, k3, k4] = true) : ∃ a b c d, v = .agg #[.int k1 a, .int k2 b, .int k3 c, .int k4 d] := by
  obtain ⟨l, rfl, hl, hc⟩ := agg_cell h hB
  match l, hl with
  | [x, y, z, u], _ =>
    obtain ⟨a, ha⟩ := hc 0 _ rfl
    obtain ⟨b, hb⟩ := hc 1 _ rfl
    obtain ⟨c, hc'⟩ := hc 2 _ rfl
    obtain ⟨d, hd⟩ := hc 3 _ rfl
    simp only [List.getElem?_cons_zero, List.getElem?_cons_succ, Option.some.injEq] at ha hb hc' hd
    exact ⟨a, b, c, d, by rw [ha, hb, hc', hd]⟩
/-- What is looked up of the program's variables. -/
abbrev UsesAt (w : World) : Prop := ∀ j v, usesList[j]? = some v → w.cell? ⟨0, j, none⟩ = some v ∧ w.frozen? ⟨0, j, none⟩ = false
theorem looksUses {W : World} (hU : UsesAt W) : Sy.Looks W usesC := by
  refine ⟨fun x hx => ?_, by decide⟩
  simp only [usesC, bools, usesL, List.mem_cons, List.not_mem_nil, or_false] at hx
  rcases hx with rfl | rfl | rfl | rfl | rfl | rfl | rfl | rfl | rfl | rfl | rfl | rfl <;> exact hU _ _ rfl
theorem blockUses : ∀ x ∈ usesC, x.1 = 0 := by
  intro x hx
  simp only [usesC, bools, usesL, List.mem_cons, List.not_mem_nil, or_false] at hx
  rcases hx with rfl | rfl | rfl | rfl | rfl | rfl | rfl | rfl | rfl | rfl | rfl | rfl <;> rfl
theorem uses_lt {W : World} (hU : UsesAt W) : 0 < W.heap.size := lt_of_cell? (hU 0 _ rfl).1

/-- Each known cell lies in a new block, or holds a bool. -/
def Far (W : World) (l : List (Nat × Nat × Value)) : Prop := ∀ x ∈ l, W.heap.size ≤ x.1 ∨ ∃ z, x.2.2 = .bool z
theorem far_uses {W : World} : Far W usesC := by
  intro x hx
  right
  simp only [usesC, bools, usesL, List.mem_cons, List.not_mem_nil, or_false] at hx
  rcases hx with rfl | rfl | rfl | rfl | rfl | rfl | rfl | rfl | rfl | rfl | rfl | rfl <;> exact ⟨_, rfl⟩
theorem far_cons {W : World} {b o : Nat} {v : Value} {l : List (Nat × Nat × Value)} (h : W.heap.size ≤ b) (hl : Far W l) : Far W ((b, o, v) :: l) := fun x hx => by
  rcases List.mem_cons.1 hx with rfl | hx
  · exact .inl h
  · exact hl x hx
theorem far_blkL {W : World} {b : Nat} (h : W.heap.size ≤ b) : ∀ {vs : List Value} {j : Nat} {l : List (Nat × Nat × Value)}, Far W l → Far W (blkL b vs j l)
  | [], _, _, hl => hl
  | _ :: r, j, l, hl => far_blkL h (vs := r) (far_cons h hl)
/-- No known cell lies in a block. -/
def Off (p : Nat) (l : List (Nat × Nat × Value)) : Prop := ∀ x ∈ l, x.1 ≠ p
theorem off_uses {W : World} (hU : UsesAt W) {p : Nat} (h : W.heap.size ≤ p) : Off p usesC := fun x hx => by rw [blockUses x hx]; have := uses_lt hU; omega
theorem off_cons {p b o : Nat} {v : Value} {l : List (Nat × Nat × Value)} (h : b ≠ p) (hl : Off p l) : Off p ((b, o, v) :: l) := fun x hx => by
  rcases List.mem_cons.1 hx with rfl | hx
  · exact h
  · exact hl x hx
theorem off_blkL {p b : Nat} (h : b ≠ p) : ∀ {vs : List Value} {j : Nat} {l : List (Nat × Nat × Value)}, Off p l → Off p (blkL b vs j l)
  | [], _, _, hl => hl
  | _ :: r, j, l, hl => off_blkL h (vs := r) (off_cons h hl)
theorem off_new {w : World} {l : List (Nat × Nat × Value)} (hl : Sy.Looks w l) {p : Nat} (hp : w.heap.size ≤ p) : Off p l := fun x hx => by have := lt_of_cell? (hl.cell x hx).1; omega

/-- Cells of what was handed in, ahead of the walk's own. -/
def elemL (ab ao s i : Nat) : List (Nat × Value) → List (Nat × Nat × Value) → List (Nat × Nat × Value)
  | [], l => l
  | p :: r, l => (ab, sadd ao (smul i s) + p.1, p.2) :: elemL ab ao s i r l
theorem elem_mem {ab ao s i : Nat} : ∀ {ps : List (Nat × Value)} {l : List (Nat × Nat × Value)} {x : Nat × Nat × Value}, x ∈ elemL ab ao s i ps l → (∃ p ∈ ps, x = (ab, sadd ao (smul i s) + p.1, p.2)) ∨ x ∈ l
  | [], _, _, h => .inr h
  | p :: r, l, x, h => by
    rcases List.mem_cons.1 h with rfl | h
    · exact .inl ⟨p, List.mem_cons_self .., rfl⟩
    · exact (elem_mem h).imp (fun ⟨q, hq, e⟩ => ⟨q, List.mem_cons_of_mem _ hq, e⟩) id
theorem elem_looks {W w : World} {L : List (Nat × Nat × Value)} (hO : Old W w) (hl : Sy.Looks w L) (hf : Far W L) {ab ao s i : Nat} {row : List Value} (he : Elem W (some ⟨ab, ao, none⟩) s i row) :
    ∀ (ps : List (Nat × Value)), (∀ p ∈ ps, row[p.1]? = some p.2 ∧ ∀ z, p.2 ≠ .bool z) → (ps.map Prod.fst).Nodup → Sy.Looks w (elemL ab ao s i ps L)
  | [], _, _ => hl
  | p :: r, h1, h2 => by
    have ih := elem_looks hO hl hf he r (fun q hq => h1 q (List.mem_cons_of_mem _ hq)) (List.nodup_cons.1 h2).2
    obtain ⟨hr, hb⟩ := h1 p (List.mem_cons_self ..)
    have he1 := he
    obtain ⟨ab', ao', e1, hab, _⟩ := he1
    simp only [Option.some.injEq, Addr.mk.injEq, and_true] at e1
    obtain ⟨rfl, rfl⟩ := e1
    obtain ⟨ab', ao', e1, _, hcell⟩ := hO.elem he
    simp only [Option.some.injEq, Addr.mk.injEq, and_true] at e1
    obtain ⟨rfl, rfl⟩ := e1
    have hc := hcell p.1 p.2 hr
    have ea : sadd ao (smul i s) + p.1 = ao + i * s + p.1 := by rw [sadd_eq, smul_eq]
    refine looks_add ih (by rw [ea]; exact hc) (fun x hx => ?_)
    rcases elem_mem hx with ⟨q, hq, rfl⟩ | hx
    · rintro ⟨_, e2⟩
      have : p.1 = q.1 := by simpa using e2
      exact (List.nodup_cons.1 h2).1 (this ▸ List.mem_map_of_mem hq)
    · rintro ⟨e1, e2⟩
      rcases hf x hx with h | ⟨z, hz⟩
      · omega
      · have := (hl.cell x hx).1
        rw [← e1, ← e2, ea, hc.1, hz] at this
        exact hb z (Option.some.inj this)

/-- A walk's own memory. -/
structure Own (W : World) (L : List (Nat × Nat × Value)) (w : World) : Prop where
  looks : Sy.Looks w L
  old : Old W w
  far : Far W L
theorem Own.start {W : World} (hU : UsesAt W) : Own W usesC W := ⟨looksUses hU, Old.start W, far_uses⟩
theorem Own.size {W w : World} {L : List (Nat × Nat × Value)} (h : Own W L w) : W.heap.size ≤ w.heap.size := h.old.size
theorem far_kept {W : World} {a b c : List (Nat × Nat × Value)} (h : Kept a b c) (hst : ∀ x ∈ c, W.heap.size ≤ x.1) (hf : Far W a) : Far W b := by
  induction h with
  | nil => exact hf
  | keep _ ih =>
    intro x hx
    rcases List.mem_cons.1 hx with rfl | hx
    · exact hf _ (List.mem_cons_self ..)
    · exact ih hst (fun y hy => hf y (List.mem_cons_of_mem _ hy)) x hx
  | set _ ih =>
    intro x hx
    rcases List.mem_cons.1 hx with rfl | hx
    · exact .inl (hst _ (List.mem_cons_self ..))
    · exact ih (fun y hy => hst y (List.mem_cons_of_mem _ hy)) (fun y hy => hf y (List.mem_cons_of_mem _ hy)) x hx
/-- A walk over the own memory and cells handed in. -/
theorem Own.step {W w w' : World} {L L' l st : List (Nat × Nat × Value)} {left : Sy.Left} (h : Own W L w) (hl : Sy.Looks w l) (hp : ({ loose := l } : Mem).Post w left w') (hk : Kept l left.loose st) (hst : ∀ x ∈ st, W.heap.size ≤ x.1) (hs : L'.Sublist left.loose) (hf : Far W L') : Own W L' w' :=
  ⟨looks_sub (post_looks hl hp hk) hs, h.old.next (post_sub hl hp hk) (fun k i ⟨x, hx, e1, _⟩ => by rw [← e1]; exact hst x hx), hf⟩
/-- One more block. -/
theorem Own.blk {W w : World} {L : List (Nat × Nat × Value)} {b t : Nat} {vs : List Value} (h : Own W L w) (hB : Blk w b t vs) (hb : W.heap.size ≤ b) (hn : Off b L) : Own W (blkL b vs 0 L) w :=
  ⟨looks_blk h.looks hB hn, h.old, far_blkL hb h.far⟩
theorem st1 {W : World} {b o : Nat} {v : Value} (h : W.heap.size ≤ b) : ∀ x ∈ [(b, o, v)], W.heap.size ≤ x.1 := fun x hx => by simp only [List.mem_singleton] at hx; rw [hx]; exact h
theorem st_nil {W : World} : ∀ x ∈ ([] : List (Nat × Nat × Value)), W.heap.size ≤ x.1 := fun x hx => by cases hx
theorem st_cons {W : World} {b o : Nat} {v : Value} {l : List (Nat × Nat × Value)} (h : W.heap.size ≤ b) (hl : ∀ x ∈ l, W.heap.size ≤ x.1) : ∀ x ∈ (b, o, v) :: l, W.heap.size ≤ x.1 := fun x hx => by
  rcases List.mem_cons.1 hx with rfl | hx
  · exact h
  · exact hl x hx
theorem wrap_next {i len cap : Nat} (h : i < len) (hcap : len ≤ cap) (hmax : cap ≤ maxLen) : IntKind.i64.wrap ((i : Int) + 1) = ((i + 1 : Nat) : Int) := by
  rw [wrap_i64 (by omega) (by unfold maxLen at hmax; omega)]; simp
abbrev Done (W : World) : Ending → World → Prop := fun e w => e = .returned (.bool true) ∧ Old W w
end Go.Proofs.YtmihblocomnfjaaDoor.Close
