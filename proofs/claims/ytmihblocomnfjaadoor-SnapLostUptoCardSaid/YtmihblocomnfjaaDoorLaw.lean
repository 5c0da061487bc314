/- What the statements' own walks share: what was handed in, what stays, what goes on. -/
import Derived.Test.YtmihblocomnfjaaDoorClose
set_option linter.unusedSimpArgs false
set_option linter.unusedVariables false
namespace Go.Proofs.YtmihblocomnfjaaDoor.Close
open Go Sy Go.ChangeShapes Go.WideShapes Go.ChangeAt Go.RowKit

/-! ### What was handed in -/
section
variable {P : Program} {H : Type} {enc : TypeId × Value → H} {w : World} {base : Nat}

theorem int_val {t : TypeId} {k : IntKind} {v : Value} (hu : P.underlying t = some (.int k)) (h : Value.okWide P w .any base t v) : ∃ z, v = .int k z := by
  unfold Value.okWide at h
  rw [hu] at h
  simp only at h
  unfold Cell.okWide at h
  rw [hu] at h
  cases v <;> simp only [Cell.ok, hu] at h
  exact ⟨_, by rw [h.1]⟩
theorem bool_val {t : TypeId} {v : Value} (hu : P.underlying t = some .bool) (h : Value.okWide P w .any base t v) : ∃ z, v = .bool z := by
  unfold Value.okWide at h
  rw [hu] at h
  simp only at h
  unfold Cell.okWide at h
  rw [hu] at h
  cases v <;> simp only [Cell.ok, hu] at h
  exact ⟨_, rfl⟩
theorem slice_val {t e : TypeId} {v : Value} (hu : P.underlying t = some (.slice e)) (h : Value.okWide P w .any base t v) : ∃ sa n c, v = .slice sa n c := by
  unfold Value.okWide at h
  rw [hu] at h
  simp only at h
  unfold Cell.okWide at h
  rw [hu] at h
  cases v <;> simp only [Cell.ok, hu] at h
  all_goals exact ⟨_, _, _, rfl⟩

/-- An element of a slice that was handed in: where it lies, what it holds. -/
def Elem (w : World) (sa : Option Addr) (s i : Nat) (row : List Value) : Prop :=
  ∃ b off, sa = some ⟨b, off, none⟩ ∧ b < w.heap.size ∧ ∀ j u, row[j]? = some u → w.cell? ⟨b, off + i * s + j, none⟩ = some u ∧ w.frozen? ⟨b, off + i * s + j, none⟩ = false

theorem spot_none {w : World} {a : Addr} {v : Value} (h : w.cell? a = some v) : a.spot = none := by
  unfold World.cell? at h
  split at h
  · split at h
    · cases h
    · rename_i hh; simpa using hh
  · cases h

theorem bulk_pos (d : DataW H) : 1 ≤ Rows.uptoBulk d := by
  cases d with
  | lit x => cases x <;> simp [Rows.uptoBulk]
  | _ => simp [Rows.uptoBulk]
theorem bulk_length : ∀ (l : List (DataW H)), l.length ≤ Rows.uptoBulkAll l
  | [] => by simp [Rows.uptoBulkAll]
  | d :: r => by
    have := bulk_length r
    have := bulk_pos d
    simp only [Rows.uptoBulkAll, List.length_cons]
    omega
theorem row_int {e : TypeId} {k : IntKind} (hu : P.underlying e = some (.int k)) : ∀ n cs (x : DataW H × List MemPlace), cs.length = 1 → DataW.trod enc P w 0 (fun _ => true) true n e cs = some x → ∃ z, cs = [.int k z] := fun _ _ _ _ h => by
  obtain ⟨z, h, _⟩ := DataW.trod_int hu h
  exact ⟨z, h⟩
theorem field_cell {t : TypeId} {fs : Array Field} {n : Nat} {cs : List Value} {x : DataW H × List MemPlace} (ht : P.underlying t = some (.struct fs)) (h : DataW.trod enc P w 0 (fun _ => true) true n t cs = some x) {i : Nat} {f : Field} (hf : fs[i]? = some f) :
    ∃ m y, DataW.trod enc P w 0 (fun _ => true) true m f.type ((cs.drop f.offset).take (P.cellsOf f.type)) = some y := by
  obtain ⟨xs, m, _, _, _, hl, hall⟩ := DataW.trod_struct ht h
  have hi : i < fs.size := (Array.getElem?_eq_some_iff.1 hf).1
  exact ⟨m, xs[i]'(by omega), by rw [hall i f hf]; exact List.getElem?_eq_getElem (by omega)⟩
theorem field_int {t : TypeId} {fs : Array Field} {n : Nat} {cs : List Value} {x : DataW H × List MemPlace} (ht : P.underlying t = some (.struct fs)) (h : DataW.trod enc P w 0 (fun _ => true) true n t cs = some x) {i : Nat} {f : Field} (hf : fs[i]? = some f) {k : IntKind} (hu : P.underlying f.type = some (.int k)) (hc : P.cellsOf f.type = 1) :
    ∃ z, cs[f.offset]? = some (.int k z) := by
  obtain ⟨m, y, hy⟩ := field_cell ht h hf
  obtain ⟨z, hz, _⟩ := DataW.trod_int hu hy
  rw [hc] at hz
  refine ⟨z, ?_⟩
  have := congrArg (fun l => l[0]?) hz
  simpa [List.getElem?_take, List.getElem?_drop] using this

/-- Field i of a struct is a whole number and lies in cell 'off'. -/
def intField (P : Program) (t i off : Nat) (k : IntKind) : Bool :=
  match P.underlying t with
  | some (.struct fs) => match fs[i]? with
    | some f => match P.underlying f.type with
      | some (.int k') => decide (f.offset = off) && decide (k' = k) && decide (P.cellsOf f.type = 1)
      | _ => false
    | none => false
  | _ => false
theorem int_cell {t : TypeId} {n : Nat} {cs : List Value} {x : DataW H × List MemPlace} (h : DataW.trod enc P w 0 (fun _ => true) true n t cs = some x) (i off : Nat) (k : IntKind) (hB : intField P t i off k = true) : ∃ z, cs[off]? = some (.int k z) := by
  unfold intField at hB
  split at hB
  · rename_i fs ht
    split at hB
    · rename_i f hf
      split at hB
      · rename_i k' hu
        simp only [Bool.and_eq_true, decide_eq_true_eq] at hB
        obtain ⟨⟨rfl, rfl⟩, hc⟩ := hB
        exact field_int ht h hf hu hc
      · cases hB
    · cases hB
  · cases hB

theorem slice_rows {T : Type} (row : T → List Value) {t e : TypeId} {s : Nat} {d : DataW H} {ps : List MemPlace} {sa : Option Addr} {len cap : Nat} (ht : P.underlying t = some (.slice e)) (hs : P.cellsOf e = s) (hpos : 0 < s)
    (hR : ∀ n cs x, cs.length = s → DataW.trod enc P w 0 (fun _ => true) true n e cs = some x → ∃ y, cs = row y)
    (h : DataW.Trod enc P w 0 (fun _ => true) true t (.slice sa len cap) d ps) (hz : w.noneFrozen ps) :
    len ≤ cap ∧ cap ≤ maxLen ∧ len ≤ Rows.uptoBulk d ∧ ∃ l : List T, l.length = len ∧ ∀ i y, l[i]? = some y → Elem w sa s i (row y) := by
  obtain ⟨fuel, h⟩ := h
  rcases DataW.trod_slice ht h with ⟨h1, h2⟩ | ⟨a, len', cap', elems, rest, n, rfl, h1, h2, h3, h4, h5, h6, h7, _⟩
  · have : (.slice sa len cap : Value) = .slice none 0 0 := by simpa [Value.cells] using h1
    simp only [Value.slice.injEq] at this
    obtain ⟨rfl, rfl, rfl⟩ := this
    exact ⟨Nat.le_refl _, by decide, Nat.zero_le _, [], rfl, by simp⟩
  · have : (.slice sa len cap : Value) = .slice (some a) len' cap' := by simpa [Value.cells] using h1
    simp only [Value.slice.injEq] at this
    obtain ⟨rfl, rfl, rfl⟩ := this
    refine ⟨h4, h5, ?_, ?_⟩
    · simp only [Prod.mk.injEq] at h2
      rw [h2.1, ← h6]
      simp only [Rows.uptoBulk]
      have := bulk_length (elems.map (·.1))
      simp only [List.length_map] at this
      omega
    have key : ∀ i, i < len → ∃ y, Elem w (some a) s i (row y) := fun i hi => by
      have h8 := h7 i hi
      rw [List.getElem?_eq_getElem (by omega)] at h8
      obtain ⟨cs, c1, c2⟩ := Option.bind_eq_some_iff.1 h8
      rw [hs] at c1
      obtain ⟨_, c3, c4⟩ := World.cells?_some c1
      obtain ⟨y, rfl⟩ := hR _ _ _ c3 c2
      obtain ⟨b, off, sp⟩ := a
      have cell : ∀ j u, (row y)[j]? = some u → w.cell? ((Addr.add ⟨b, off, sp⟩ (i * s)).add j) = some u := fun j u hu => by
        rw [c4 j (by have := (List.getElem?_eq_some_iff.1 hu).1; omega), hu]
      have hsp : (⟨b, off, sp⟩ : Addr).add (i * s) = ⟨b, off + i * s, none⟩ := by
        have h0 : 0 < (row y).length := by omega
        have := cell 0 _ (List.getElem?_eq_getElem h0)
        have := spot_none this
        unfold Addr.add at this ⊢
        simp only [if_true] at this
        split
        · rename_i hz0
          rw [if_pos hz0] at this
          simp only at this
          rw [this, hz0]
          rfl
        · rfl
      -- the slice's own address
      have hsp0 : sp = none := by
        have h9 := h7 0 (by omega)
        rw [List.getElem?_eq_getElem (by omega)] at h9
        obtain ⟨cs0, d1, d2⟩ := Option.bind_eq_some_iff.1 h9
        rw [hs] at d1
        obtain ⟨_, d3, d4⟩ := World.cells?_some d1
        have := d4 0 hpos
        rw [List.getElem?_eq_getElem (by omega)] at this
        have := spot_none this
        simpa [Addr.add] using this
      subst hsp0
      have addr : ∀ j, ((⟨b, off + i * s, none⟩ : Addr).add j) = ⟨b, off + i * s + j, none⟩ := fun j => by
        unfold Addr.add
        split
        · rename_i hj; rw [hj]; rfl
        · rfl
      refine ⟨y, b, off, rfl, ?_, fun j u hu => ?_⟩
      · have := cell 0 _ (List.getElem?_eq_getElem (show 0 < (row y).length by omega))
        rw [hsp, addr] at this
        exact lt_of_cell? this
      · have hc := cell j u hu
        rw [hsp, addr] at hc
        refine ⟨hc, hz _ _ ?_⟩
        simp only [Prod.mk.injEq] at h2
        rw [h2.2]
        refine List.mem_append_left _ (List.mem_map.2 ⟨i * s + j, ?_, by simp only [Nat.add_assoc]⟩)
        have hj := (List.getElem?_eq_some_iff.1 hu).1
        rw [List.mem_range, hs]
        have : (i + 1) * s ≤ (elems.length + rest.length) * s := Nat.mul_le_mul_right _ (by omega)
        rw [Nat.succ_mul] at this
        omega
    have pick := fun i : Fin len => key i.1 i.2
    obtain ⟨f, hf⟩ := Classical.axiomOfChoice pick
    refine ⟨List.ofFn f, by simp, fun i y hy => ?_⟩
    have hi : i < len := by simpa using (List.getElem?_eq_some_iff.1 hy).1
    rw [List.getElem?_ofFn, dif_pos hi] at hy
    cases hy
    exact hf ⟨i, hi⟩
end

/-! ### What stays, what goes on -/
theorem kept_addr {a b c : List (Nat × Nat × Value)} (h : Kept a b c) : b.map (fun x => (x.1, x.2.1)) = a.map (fun x => (x.1, x.2.1)) := by
  induction h with
  | nil => rfl
  | keep _ ih => simp [ih]
  | set _ ih => simp [ih]
theorem apart_iff {l : List (Nat × Nat × Value)} : l.Pairwise (fun x y => ¬ (x.1 = y.1 ∧ x.2.1 = y.2.1)) ↔ (l.map (fun x => (x.1, x.2.1))).Nodup := by
  rw [List.Nodup, List.pairwise_map]
  constructor
  · exact fun h => h.imp fun hh e => hh (by simpa using e)
  · exact fun h => h.imp fun hh e => hh (by simpa using e)
theorem post_looks {w w' : World} {l st : List (Nat × Nat × Value)} {left : Sy.Left} (hl : Sy.Looks w l) (hp : ({ loose := l } : Mem).Post w left w') (hk : Kept l left.loose st) : Sy.Looks w' left.loose :=
  ⟨hp.loose, by rw [apart_iff, kept_addr hk, ← apart_iff]; exact hl.apart⟩
theorem post_sub {w w' : World} {l st : List (Nat × Nat × Value)} {left : Sy.Left} (hl : Sy.Looks w l) (hp : ({ loose := l } : Mem).Post w left w') (hk : Kept l left.loose st) : Sub (fun k i => ∃ x ∈ st, x.1 = k ∧ x.2.1 = i) w w' :=
  hp.sub.less fun k i hc _ => by
    rcases hc with ⟨c, hm, rfl, rfl⟩ | ⟨x, hx, _⟩
    · rcases mem_cellsOf hm with ⟨x, hx, _⟩ | hm
      · cases hx
      · obtain ⟨y, hy, rfl⟩ := mem_looseCells hm
        rcases hk.old y hy with ⟨x, hx, e1, e2⟩ | hy'
        · exact .inl ⟨x, hx, e1, e2⟩
        · exact .inr ((hp.loose y hy').1.trans (hl.cell y hy).1.symm)
    · cases hx
theorem Old.refl (W : World) (h : ∀ k, W.heap.size ≤ k → ∀ c t f, W.heap[k]? = some (.cells c t f) → f = (0, 0)) : Old W W := ⟨rfl, rfl, Nat.le_refl _, fun _ _ => rfl, h⟩
theorem Old.start (W : World) : Old W W := ⟨rfl, rfl, Nat.le_refl _, fun _ _ => rfl, fun k hk c t f e => by rw [Array.getElem?_eq_none hk] at e; cases e⟩
theorem Old.next {W w w' : World} {C : Nat → Nat → Prop} (h : Old W w) (hs : Sub C w w') (hC : ∀ k i, C k i → W.heap.size ≤ k) : Old W w' := by
  refine ⟨hs.os.trans h.os, hs.output.trans h.output, Nat.le_trans h.size hs.size, fun k hk => ?_, fun k hk c t f e => ?_⟩
  · rw [hs.far (Nat.lt_of_lt_of_le hk h.size) (fun i hi => by have := hC k i hi; omega), h.block k hk]
  · rcases Nat.lt_or_ge k w.heap.size with h1 | h1
    · have e1 : w.heap[k]? = some w.heap[k] := Array.getElem?_eq_getElem h1
      have a := hs.block k h1 _ e1
      generalize w.heap[k] = o at a e1
      cases o with
      | cells c1 t1 f1 =>
        obtain ⟨c', e2, _⟩ := a
        rw [e2] at e
        simp only [Option.some.injEq, Obj.cells.injEq] at e
        rw [← e.2.2]
        exact h.fresh k hk c1 t1 f1 e1
      | _ => simp only at a; rw [a] at e; cases e
    · exact hs.fresh k h1 c t f e
theorem Old.elem {W w : World} (h : Old W w) {sa : Option Addr} {s i : Nat} {row : List Value} (he : Elem W sa s i row) : Elem w sa s i row := by
  obtain ⟨b, off, h1, h2, h3⟩ := he
  refine ⟨b, off, h1, Nat.lt_of_lt_of_le h2 h.size, fun j u hu => ?_⟩
  obtain ⟨h4, h5⟩ := h3 j u hu
  have := h.block b h2
  exact ⟨by simpa only [World.cell?, this] using h4, by simpa only [World.frozen?, this] using h5⟩
/-- Two cells that hold different things are two. -/
theorem two_cells {w : World} {b o b' o' : Nat} {v v' : Value} (h : w.cell? ⟨b, o, none⟩ = some v) (h' : w.cell? ⟨b', o', none⟩ = some v') (hv : v ≠ v') : ¬ (b = b' ∧ o = o') := by
  rintro ⟨rfl, rfl⟩
  rw [h] at h'
  exact hv (Option.some.inj h')
theorem looks_sub {w : World} {l l' : List (Nat × Nat × Value)} (h : Sy.Looks w l) (hs : l'.Sublist l) : Sy.Looks w l' := ⟨fun x hx => h.cell x (hs.subset hx), h.apart.sublist hs⟩
theorem looks_add {w : World} {l : List (Nat × Nat × Value)} {b o : Nat} {v : Value} (h : Sy.Looks w l) (hc : w.cell? ⟨b, o, none⟩ = some v ∧ w.frozen? ⟨b, o, none⟩ = false) (hn : ∀ x ∈ l, ¬ (b = x.1 ∧ o = x.2.1)) : Sy.Looks w ((b, o, v) :: l) :=
  ⟨fun x hx => by
    rcases List.mem_cons.1 hx with rfl | hx
    · exact hc
    · exact h.cell x hx, List.pairwise_cons.2 ⟨hn, h.apart⟩⟩
/-- A block's cells, the last first, ahead of others. -/
def blkL (b : Nat) : List Value → Nat → List (Nat × Nat × Value) → List (Nat × Nat × Value)
  | [], _, l => l
  | v :: r, j, l => blkL b r (j + 1) ((b, j, v) :: l)
theorem looks_blkL {w : World} {b : Nat} {all : List Value} (hB : ∀ j v, all[j]? = some v → w.cell? ⟨b, j, none⟩ = some v ∧ w.frozen? ⟨b, j, none⟩ = false) : ∀ (vs : List Value) (j : Nat) (l : List (Nat × Nat × Value)), (∀ i v, vs[i]? = some v → all[j + i]? = some v) → Sy.Looks w l → (∀ x ∈ l, x.1 ≠ b ∨ x.2.1 < j) → Sy.Looks w (blkL b vs j l)
  | [], _, l, _, hl, _ => hl
  | v :: r, j, l, ha, hl, hn => by
    refine looks_blkL hB r (j + 1) _ (fun i u hu => ?_) (looks_add hl (hB j v (ha 0 v rfl)) (fun x hx hh => ?_)) (fun x hx => ?_)
    · have := ha (i + 1) u (by simpa using hu)
      rw [← this]; congr 1; omega
    · rcases hn x hx with h | h
      · exact h hh.1.symm
      · omega
    · rcases List.mem_cons.1 hx with rfl | hx
      · exact .inr (Nat.lt_succ_self _)
      · exact (hn x hx).imp id (fun h => by omega)
theorem looks_blk {w : World} {b t : Nat} {vs : List Value} {l : List (Nat × Nat × Value)} (hl : Sy.Looks w l) (hB : Blk w b t vs) (hn : ∀ x ∈ l, x.1 ≠ b) : Sy.Looks w (blkL b vs 0 l) :=
  looks_blkL hB.2 vs 0 l (fun i v h => by simpa using h) hl (fun x hx => .inl (hn x hx))
end Go.Proofs.YtmihblocomnfjaaDoor.Close
