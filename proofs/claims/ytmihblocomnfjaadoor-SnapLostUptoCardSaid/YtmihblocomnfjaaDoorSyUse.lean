/- A walk that the kernel carries out: how it is used. -/
import Derived.Test.YtmihblocomnfjaaDoorSyGo
set_option linter.unusedSimpArgs false
set_option linter.unusedVariables false
namespace Go.Proofs.YtmihblocomnfjaaDoor.Sy
open Go

/-- Block b is of type t and holds just these values; none is frozen. -/
def Blk (w : World) (b t : Nat) (vs : List Value) : Prop :=
  w.shape? b = some (t, vs.length) ∧ ∀ j v, vs[j]? = some v → w.cell? ⟨b, j, none⟩ = some v ∧ w.frozen? ⟨b, j, none⟩ = false

/-- What is known of memory: whole blocks (number, type, values), single cells, further shapes, slices of the call's own. -/
structure Mem where
  blocks : List (Nat × TypeId × List Value) := []
  loose : List (Nat × Nat × Value) := []
  shapes : List (Nat × TypeId × Nat) := []
  vecs : List Vec := []
  ros : List Ro := []

def blockCells (b : Nat) : List Value → Nat → List Cell
  | [], _ => []
  | v :: r, j => ⟨b, j, some v, []⟩ :: blockCells b r (j + 1)
def cellsOf : List (Nat × TypeId × List Value) → List Cell → List Cell
  | [], l => l
  | x :: r, l => blockCells x.1 x.2.2 0 ++ cellsOf r l
def looseCells : List (Nat × Nat × Value) → List Cell
  | [] => []
  | x :: r => ⟨x.1, x.2.1, some x.2.2, []⟩ :: looseCells r
def shapesOf : List (Nat × TypeId × List Value) → List (Nat × TypeId × Nat × Key)
  | [] => []
  | x :: r => (x.1, x.2.1, x.2.2.length, []) :: shapesOf r
def moreShapes : List (Nat × TypeId × Nat) → List (Nat × TypeId × Nat × Key)
  | [] => []
  | x :: r => (x.1, x.2.1, x.2.2, []) :: moreShapes r

def Mem.cells (m : Mem) : List Cell := cellsOf m.blocks (looseCells m.loose)
def Mem.start (m : Mem) (todo : List (Key × Nat)) (tr : List Nat) : St :=
  { cells := m.cells, shapes := ⟨shapesOf m.blocks ++ moreShapes m.shapes, m.vecs, todo, m.ros⟩, tr := tr, eqs := [], conds := [], wr := [], log := [], glog := [] }

/-- Memory behind a walk: the blocks, the cells, the slices, new blocks, what the ways asked. -/
structure Left where
  blocks : List (Nat × TypeId × List Value)
  loose : List (Nat × Nat × Value)
  vecs : List Vec
  news : List (Nat × TypeId × List Value)
  conds : List (Bool × Bool)

def takeVals (b : Nat) : Nat → Nat → List Cell → Option (List Value × List (Value × Value) × List Cell)
  | 0, _, l => some ([], [], l)
  | _ + 1, _, [] => none
  | n + 1, j, c :: l => match c.v with
    | none => none
    | some v => match takeVals b n (j + 1) l with
      | none => none
      | some (vs, eqs, l') => some (v :: vs, (addr c.b c.o, addr b j) :: eqs, l')
def regroup : List (Nat × TypeId × Nat) → List Cell → Option (List (Nat × TypeId × List Value) × List (Value × Value) × List Cell)
  | [], l => some ([], [], l)
  | x :: r, l => match takeVals x.1 x.2.2 0 l with
    | none => none
    | some (vs, eqs, l') => match regroup r l' with
      | none => none
      | some (bs, eqs', l'') => some ((x.1, x.2.1, vs) :: bs, eqs ++ eqs', l'')
def reloose : List (Nat × Nat × Value) → List Cell → Option (List (Nat × Nat × Value) × List (Value × Value) × List Cell)
  | [], l => some ([], [], l)
  | _ :: _, [] => none
  | x :: r, c :: l => match c.v with
    | none => none
    | some v => match reloose r l with
      | none => none
      | some (bs, eqs', l'') => some ((x.1, x.2.1, v) :: bs, (addr c.b c.o, addr x.1 x.2.1) :: eqs', l'')
def sizes : List (Nat × TypeId × List Value) → List (Nat × TypeId × Nat)
  | [] => []
  | x :: r => (x.1, x.2.1, x.2.2.length) :: sizes r
def regroupN (keep : List Key) : List (Nat × TypeId × Nat × Key) → List Cell → Option (List (Nat × TypeId × List Value) × List (Value × Value) × List Cell)
  | [], l => some ([], [], l)
  | x :: r, l => match x.2.2.2 with
    | [] => regroupN keep r l
    | _ :: _ => match keep.any (fun k => keyEq k x.2.2.2) with
      | false => regroupN keep r (l.drop x.2.2.1)
      | true => match takeVals x.1 x.2.2.1 0 l with
        | none => none
        | some (vs, eqs, l') => match regroupN keep r l' with
          | none => none
          | some (bs, eqs', l2) => some ((x.1, x.2.1, vs) :: bs, eqs ++ eqs', l2)

def Mem.fin (m : Mem) (keep : List Key) (st : St) : Option (Left × List (Value × Value)) :=
  match regroupN keep st.shapes.l st.cells with
  | none => none
  | some (ns, e3, l0) => match regroup (sizes m.blocks) l0 with
    | none => none
    | some (bs, e1, l1) => match reloose m.loose l1 with
      | none => none
      | some (ls, e2, _) => some (⟨bs, ls, st.shapes.vecs, ns, st.conds⟩, e1 ++ e2 ++ e3 ++ st.eqs)

/-- Which cells a walk may change. -/
def Mem.C (m : Mem) (k i : Nat) : Prop := known m.cells k i ∨ ∃ x ∈ m.vecs, x.v.ownBlock = some k
/-- What is asked of the world. -/
structure Mem.Met (m : Mem) (w : World) : Prop where
  blocks : ∀ x ∈ m.blocks, Blk w x.1 x.2.1 x.2.2
  nodup : (m.blocks.map Prod.fst).Nodup
  loose : ∀ x ∈ m.loose, w.cell? ⟨x.1, x.2.1, none⟩ = some x.2.2 ∧ w.frozen? ⟨x.1, x.2.1, none⟩ = false
  apart : m.loose.Pairwise (fun x y => ¬ (x.1 = y.1 ∧ x.2.1 = y.2.1))
  off : ∀ x ∈ m.loose, x.1 ∉ m.blocks.map Prod.fst
  shapes : ∀ s ∈ m.shapes, w.shape? s.1 = some s.2
  vecs : ∀ x ∈ m.vecs, w.ownsRow 0 x.e x.size x.v x.n x.xs
  vsep : ∀ x ∈ m.vecs, ∀ g, x.v.ownBlock = some g → g ∉ m.blocks.map Prod.fst ∧ (∀ y ∈ m.loose, y.1 ≠ g) ∧ ∀ s ∈ m.shapes, s.1 ≠ g
  vdist : m.vecs.Pairwise (fun x y => ∀ g, x.v.ownBlock = some g → y.v.ownBlock ≠ some g)
  ros : ∀ r ∈ m.ros, RoOk m.C w.heap.size w r := by intro r hr; cases hr


theorem lt_of_shape {w : World} {b : Nat} {s : TypeId × Nat} (h : w.shape? b = some s) : b < w.heap.size := by
  rcases Nat.lt_or_ge b w.heap.size with h1 | h1
  · exact h1
  · simp [World.shape?, Array.getElem?_eq_none h1] at h
theorem lt_of_cell? {w : World} {b o : Nat} {v : Value} (h : w.cell? ⟨b, o, none⟩ = some v) : b < w.heap.size := by
  rcases Nat.lt_or_ge b w.heap.size with h1 | h1
  · exact h1
  · simp [World.cell?, Array.getElem?_eq_none h1] at h

theorem mem_blockCells {b : Nat} : ∀ {vs : List Value} {j : Nat} {c : Cell}, c ∈ blockCells b vs j → ∃ i v, vs[i]? = some v ∧ c = ⟨b, j + i, some v, []⟩
  | v :: r, j, c, h => by
    rcases List.mem_cons.1 h with rfl | h
    · exact ⟨0, v, rfl, rfl⟩
    · obtain ⟨i, u, h1, h2⟩ := mem_blockCells h
      exact ⟨i + 1, u, by simpa using h1, by rw [h2]; congr 1; omega⟩
theorem blockCells_dist {b : Nat} : ∀ {vs : List Value} {j : Nat}, (blockCells b vs j).Pairwise Apart
  | [], _ => List.Pairwise.nil
  | v :: r, j => List.pairwise_cons.2 ⟨fun d hd => by
      obtain ⟨i, u, _, rfl⟩ := mem_blockCells hd
      intro hh
      have := hh.2
      simp at this
      omega, blockCells_dist⟩
theorem mem_cellsOf {l : List Cell} : ∀ {bs : List (Nat × TypeId × List Value)} {c : Cell}, c ∈ cellsOf bs l → (∃ x ∈ bs, c ∈ blockCells x.1 x.2.2 0) ∨ c ∈ l
  | [], c, h => .inr h
  | x :: r, c, h => by
    rcases List.mem_append.1 h with h | h
    · exact .inl ⟨x, List.mem_cons_self .., h⟩
    · rcases mem_cellsOf h with ⟨y, hy, h⟩ | h
      · exact .inl ⟨y, List.mem_cons_of_mem _ hy, h⟩
      · exact .inr h
theorem mem_looseCells : ∀ {l : List (Nat × Nat × Value)} {c : Cell}, c ∈ looseCells l → ∃ x ∈ l, c = ⟨x.1, x.2.1, some x.2.2, []⟩
  | x :: r, c, h => by
    rcases List.mem_cons.1 h with rfl | h
    · exact ⟨x, List.mem_cons_self .., rfl⟩
    · obtain ⟨y, hy, e⟩ := mem_looseCells h
      exact ⟨y, List.mem_cons_of_mem _ hy, e⟩
theorem looseCells_dist : ∀ {l : List (Nat × Nat × Value)}, l.Pairwise (fun x y => ¬ (x.1 = y.1 ∧ x.2.1 = y.2.1)) → (looseCells l).Pairwise Apart
  | [], _ => List.Pairwise.nil
  | x :: r, h => by
    rw [List.pairwise_cons] at h
    refine List.pairwise_cons.2 ⟨fun d hd => ?_, looseCells_dist h.2⟩
    obtain ⟨y, hy, rfl⟩ := mem_looseCells hd
    exact h.1 y hy
theorem cellsOf_dist {l : List Cell} (hl : l.Pairwise Apart) : ∀ {bs : List (Nat × TypeId × List Value)}, (bs.map Prod.fst).Nodup → (∀ c ∈ l, c.b ∉ bs.map Prod.fst) → (cellsOf bs l).Pairwise Apart
  | [], _, _ => hl
  | x :: r, hn, ho => by
    simp only [List.map_cons, List.nodup_cons] at hn
    refine List.pairwise_append.2 ⟨blockCells_dist, cellsOf_dist hl hn.2 (fun c hc hh => ho c hc (List.mem_cons_of_mem _ hh)), fun c hc d hd hh => ?_⟩
    obtain ⟨i, v, _, rfl⟩ := mem_blockCells hc
    have hb := hh.1
    simp only at hb
    rcases mem_cellsOf hd with ⟨y, hy, hd⟩ | hd
    · obtain ⟨i', v', _, rfl⟩ := mem_blockCells hd
      simp only at hb
      exact hn.1 (hb ▸ List.mem_map_of_mem hy)
    · exact ho d hd (by simp [← hb])

theorem mem_shapesOf : ∀ {bs : List (Nat × TypeId × List Value)} {s : Nat × TypeId × Nat × Key}, s ∈ shapesOf bs → ∃ x ∈ bs, s = (x.1, x.2.1, x.2.2.length, [])
  | x :: r, s, h => by
    rcases List.mem_cons.1 h with rfl | h
    · exact ⟨x, List.mem_cons_self .., rfl⟩
    · obtain ⟨y, hy, e⟩ := mem_shapesOf h
      exact ⟨y, List.mem_cons_of_mem _ hy, e⟩
theorem mem_moreShapes : ∀ {bs : List (Nat × TypeId × Nat)} {s : Nat × TypeId × Nat × Key}, s ∈ moreShapes bs → ∃ x ∈ bs, s = (x.1, x.2.1, x.2.2, [])
  | x :: r, s, h => by
    rcases List.mem_cons.1 h with rfl | h
    · exact ⟨x, List.mem_cons_self .., rfl⟩
    · obtain ⟨y, hy, e⟩ := mem_moreShapes h
      exact ⟨y, List.mem_cons_of_mem _ hy, e⟩

theorem Mem.Met.inv {m : Mem} {w : World} (h : m.Met w) (todo : List (Key × Nat)) (tr : List Nat) : Inv m.C w.heap.size w (m.start todo tr) := by
  have hc : ∀ x ∈ m.cells, ∃ v, x.v = some v ∧ w.cell? ⟨x.b, x.o, none⟩ = some v ∧ w.frozen? ⟨x.b, x.o, none⟩ = false := fun x hx => by
    rcases mem_cellsOf hx with ⟨y, hy, hd⟩ | hd
    · obtain ⟨i, v, hv, rfl⟩ := mem_blockCells hd
      obtain ⟨h1, h2⟩ := (h.blocks y hy).2 i v hv
      exact ⟨v, rfl, by simpa using h1, by simpa using h2⟩
    · obtain ⟨y, hy, rfl⟩ := mem_looseCells hd
      obtain ⟨h1, h2⟩ := h.loose y hy
      exact ⟨_, rfl, h1, h2⟩
  have hs : ∀ s ∈ (m.start todo tr).shapes.l, w.shape? s.1 = some (s.2.1, s.2.2.1) ∧ s.2.2.2 = [] := fun s hs => by
    rcases List.mem_append.1 hs with hs | hs
    · obtain ⟨x, hx, rfl⟩ := mem_shapesOf hs
      exact ⟨(h.blocks x hx).1, rfl⟩
    · obtain ⟨x, hx, rfl⟩ := mem_moreShapes hs
      exact ⟨h.shapes x hx, rfl⟩
  refine ⟨fun x hx v hv => ?_, fun x hx => ?_, ?_, fun s h => (hs s h).1, fun x hx => ?_, fun s hx => lt_of_shape (hs s hx).1, fun x hx => .inl (.inl ⟨x, hx, rfl, rfl⟩), h.vecs, fun x hx g hg => ⟨fun c hc => ?_, fun s hs => ?_, fun i => .inl (.inr ⟨x, hx, hg⟩)⟩, h.vdist, fun s h => .inl (hs s h).2, ?_, h.ros⟩
  · obtain ⟨v', h1, h2, _⟩ := hc x hx
    rw [hv] at h1; cases h1; exact h2
  · obtain ⟨v', _, _, h2⟩ := hc x hx; exact h2
  · refine cellsOf_dist (looseCells_dist h.apart) h.nodup (fun d hd => ?_)
    obtain ⟨y, hy, rfl⟩ := mem_looseCells hd
    exact h.off y hy
  · obtain ⟨v', _, h2, _⟩ := hc x hx; exact lt_of_cell? h2
  · obtain ⟨s1, s2, s3⟩ := h.vsep x hx g hg
    rcases mem_cellsOf hc with ⟨y, hy, hd⟩ | hd
    · obtain ⟨i, v, hv, rfl⟩ := mem_blockCells hd
      exact fun e => s1 (e ▸ List.mem_map_of_mem hy)
    · obtain ⟨y, hy, rfl⟩ := mem_looseCells hd
      exact s2 y hy
  · obtain ⟨s1, s2, s3⟩ := h.vsep x hx g hg
    rcases List.mem_append.1 hs with hs | hs
    · obtain ⟨y, hy, rfl⟩ := mem_shapesOf hs
      exact fun e => s1 (e ▸ List.mem_map_of_mem hy)
    · obtain ⟨y, hy, rfl⟩ := mem_moreShapes hs
      exact s3 y hy
  · have all : ∀ s ∈ (m.start todo tr).shapes.l, s.2.2.2 = [] := fun s h => (hs s h).2
    generalize (m.start todo tr).shapes.l = l at all
    induction l with
    | nil => exact List.Pairwise.nil
    | cons x r ih => exact List.pairwise_cons.2 ⟨fun y hy => .inl ⟨all x (List.mem_cons_self ..), all y (List.mem_cons_of_mem _ hy)⟩, ih (fun s hs => all s (List.mem_cons_of_mem _ hs))⟩

theorem takeVals_sound {b : Nat} : ∀ {n j : Nat} {l : List Cell} {vs : List Value} {eqs : List (Value × Value)} {l' : List Cell}, takeVals b n j l = some (vs, eqs, l') → (∀ p ∈ eqs, p.1 = p.2) →
    vs.length = n ∧ (∀ i v, vs[i]? = some v → ∃ c ∈ l, c.b = b ∧ c.o = j + i ∧ c.v = some v) ∧ ∀ c ∈ l', c ∈ l
  | 0, j, l, vs, eqs, l', h, _ => by
    simp only [takeVals, Option.some.injEq, Prod.mk.injEq] at h
    obtain ⟨rfl, rfl, rfl⟩ := h
    exact ⟨rfl, fun i v hv => by simp at hv, fun c hc => hc⟩
  | n + 1, j, [], vs, eqs, l', h, _ => by simp [takeVals] at h
  | n + 1, j, c :: l, vs, eqs, l', h, he => by
    simp only [takeVals] at h
    split at h
    · cases h
    · rename_i v hv
      split at h
      · cases h
      · rename_i vs1 eqs1 l1 h1
        simp only [Option.some.injEq, Prod.mk.injEq] at h
        obtain ⟨rfl, rfl, rfl⟩ := h
        obtain ⟨g1, g2, g3⟩ := takeVals_sound h1 (fun p hp => he p (List.mem_cons_of_mem _ hp))
        have h0 := he _ (List.mem_cons_self ..)
        simp [addr] at h0
        refine ⟨by simp [g1], fun i u hu => ?_, fun c hc => List.mem_cons_of_mem _ (g3 c hc)⟩
        cases i with
        | zero =>
          simp only [List.getElem?_cons_zero, Option.some.injEq] at hu
          subst hu
          exact ⟨c, List.mem_cons_self .., h0.1, h0.2, hv⟩
        | succ i =>
          simp only [List.getElem?_cons_succ] at hu
          obtain ⟨d, hd, r1, r2, r3⟩ := g2 i u hu
          exact ⟨d, List.mem_cons_of_mem _ hd, r1, by omega, r3⟩

theorem regroup_sound : ∀ {ss : List (Nat × TypeId × Nat)} {l : List Cell} {bs : List (Nat × TypeId × List Value)} {eqs : List (Value × Value)} {l' : List Cell}, regroup ss l = some (bs, eqs, l') → (∀ p ∈ eqs, p.1 = p.2) →
    (∀ x ∈ bs, (x.1, x.2.1, x.2.2.length) ∈ ss ∧ ∀ i v, x.2.2[i]? = some v → ∃ c ∈ l, c.b = x.1 ∧ c.o = i ∧ c.v = some v) ∧ ∀ c ∈ l', c ∈ l
  | [], l, bs, eqs, l', h, _ => by
    simp only [regroup, Option.some.injEq, Prod.mk.injEq] at h
    obtain ⟨rfl, rfl, rfl⟩ := h
    exact ⟨fun x hx => (by cases hx), fun c hc => hc⟩
  | s :: r, l, bs, eqs, l', h, he => by
    simp only [regroup] at h
    split at h
    · cases h
    · rename_i vs e1 l1 h1
      split at h
      · cases h
      · rename_i bs1 e2 l2 h2
        simp only [Option.some.injEq, Prod.mk.injEq] at h
        obtain ⟨rfl, rfl, rfl⟩ := h
        obtain ⟨g1, g2, g3⟩ := takeVals_sound h1 (fun p hp => he p (List.mem_append_left _ hp))
        obtain ⟨k1, k2⟩ := regroup_sound h2 (fun p hp => he p (List.mem_append_right _ hp))
        refine ⟨fun x hx => ?_, fun c hc => g3 c (k2 c hc)⟩
        rcases List.mem_cons.1 hx with rfl | hx
        · refine ⟨by simp [g1], fun i v hv => ?_⟩
          obtain ⟨c, hc, r1, r2, r3⟩ := g2 i v hv
          exact ⟨c, hc, r1, by omega, r3⟩
        · obtain ⟨q1, q2⟩ := k1 x hx
          refine ⟨List.mem_cons_of_mem _ q1, fun i v hv => ?_⟩
          obtain ⟨c, hc, r⟩ := q2 i v hv
          exact ⟨c, g3 c hc, r⟩

theorem reloose_sound : ∀ {ss : List (Nat × Nat × Value)} {l : List Cell} {bs : List (Nat × Nat × Value)} {eqs : List (Value × Value)} {l' : List Cell}, reloose ss l = some (bs, eqs, l') → (∀ p ∈ eqs, p.1 = p.2) →
    (∀ x ∈ bs, ∃ c ∈ l, c.b = x.1 ∧ c.o = x.2.1 ∧ c.v = some x.2.2) ∧ ∀ c ∈ l', c ∈ l
  | [], l, bs, eqs, l', h, _ => by
    simp only [reloose, Option.some.injEq, Prod.mk.injEq] at h
    obtain ⟨rfl, rfl, rfl⟩ := h
    exact ⟨fun x hx => (by cases hx), fun c hc => hc⟩
  | s :: r, [], bs, eqs, l', h, he => by simp [reloose] at h
  | s :: r, c :: l, bs, eqs, l', h, he => by
    simp only [reloose] at h
    split at h
    · cases h
    · rename_i v hv
      split at h
      · cases h
      · rename_i bs1 e2 l2 h2
        simp only [Option.some.injEq, Prod.mk.injEq] at h
        obtain ⟨rfl, rfl, rfl⟩ := h
        obtain ⟨k1, k2⟩ := reloose_sound h2 (fun p hp => he p (List.mem_cons_of_mem _ hp))
        have h0 := he _ (List.mem_cons_self ..)
        simp [addr] at h0
        refine ⟨fun x hx => ?_, fun d hd => List.mem_cons_of_mem _ (k2 d hd)⟩
        rcases List.mem_cons.1 hx with rfl | hx
        · exact ⟨c, List.mem_cons_self .., h0.1, h0.2, hv⟩
        · obtain ⟨d, hd, r⟩ := k1 x hx
          exact ⟨d, List.mem_cons_of_mem _ hd, r⟩

theorem regroup_all : ∀ {ss : List (Nat × TypeId × Nat)} {l : List Cell} {bs : List (Nat × TypeId × List Value)} {eqs : List (Value × Value)} {l' : List Cell}, regroup ss l = some (bs, eqs, l') → (∀ p ∈ eqs, p.1 = p.2) →
    ∀ s ∈ ss, ∃ x ∈ bs, x.1 = s.1 ∧ x.2.2.length = s.2.2
  | [], l, bs, eqs, l', h, _, s, hs => by cases hs
  | s :: r, l, bs, eqs, l', h, he, t, ht => by
    simp only [regroup] at h
    split at h
    · cases h
    · rename_i vs e1 l1 h1
      split at h
      · cases h
      · rename_i bs1 e2 l2 h2
        simp only [Option.some.injEq, Prod.mk.injEq] at h
        obtain ⟨rfl, rfl, rfl⟩ := h
        rcases List.mem_cons.1 ht with rfl | ht
        · exact ⟨_, List.mem_cons_self .., rfl, (takeVals_sound h1 (fun p hp => he p (List.mem_append_left _ hp))).1⟩
        · obtain ⟨x, hx, r⟩ := regroup_all h2 (fun p hp => he p (List.mem_append_right _ hp)) t ht
          exact ⟨x, List.mem_cons_of_mem _ hx, r⟩
theorem reloose_all : ∀ {ss : List (Nat × Nat × Value)} {l : List Cell} {bs : List (Nat × Nat × Value)} {eqs : List (Value × Value)} {l' : List Cell}, reloose ss l = some (bs, eqs, l') → ∀ s ∈ ss, ∃ x ∈ bs, x.1 = s.1
  | [], l, bs, eqs, l', h, s, hs => by cases hs
  | s :: r, [], bs, eqs, l', h, t, ht => by simp [reloose] at h
  | s :: r, c :: l, bs, eqs, l', h, t, ht => by
    simp only [reloose] at h
    split at h
    · cases h
    · split at h
      · cases h
      · rename_i bs1 e2 l2 h2
        simp only [Option.some.injEq, Prod.mk.injEq] at h
        obtain ⟨rfl, rfl, rfl⟩ := h
        rcases List.mem_cons.1 ht with rfl | ht
        · exact ⟨_, List.mem_cons_self .., rfl⟩
        · obtain ⟨x, hx, r⟩ := reloose_all h2 t ht
          exact ⟨x, List.mem_cons_of_mem _ hx, r⟩

theorem regroupN_sound {keep : List Key} : ∀ {ss : List (Nat × TypeId × Nat × Key)} {l : List Cell} {bs : List (Nat × TypeId × List Value)} {eqs : List (Value × Value)} {l' : List Cell}, regroupN keep ss l = some (bs, eqs, l') → (∀ p ∈ eqs, p.1 = p.2) →
    ∀ x ∈ bs, (∃ s ∈ ss, s.2.2.2 ≠ [] ∧ s.1 = x.1 ∧ s.2.1 = x.2.1 ∧ s.2.2.1 = x.2.2.length) ∧ ∀ i v, x.2.2[i]? = some v → ∃ c ∈ l, c.b = x.1 ∧ c.o = i ∧ c.v = some v
  | [], l, bs, eqs, l', h, _, x, hx => by
    simp only [regroupN, Option.some.injEq, Prod.mk.injEq] at h
    obtain ⟨rfl, rfl, rfl⟩ := h
    cases hx
  | s :: r, l, bs, eqs, l', h, he, x, hx => by
    simp only [regroupN] at h
    split at h
    · obtain ⟨⟨s, hs, q⟩, q2⟩ := regroupN_sound h he x hx
      exact ⟨⟨s, List.mem_cons_of_mem _ hs, q⟩, q2⟩
    · rename_i hkey
      split at h
      · obtain ⟨⟨s, hs, q⟩, q2⟩ := regroupN_sound h he x hx
        refine ⟨⟨s, List.mem_cons_of_mem _ hs, q⟩, fun i v hv => ?_⟩
        obtain ⟨c, hc, r⟩ := q2 i v hv
        exact ⟨c, List.mem_of_mem_drop hc, r⟩
      · split at h
        · cases h
        · rename_i vs e1 l1 h1
          split at h
          · cases h
          · rename_i bs1 e2 l2 h2
            simp only [Option.some.injEq, Prod.mk.injEq] at h
            obtain ⟨rfl, rfl, rfl⟩ := h
            obtain ⟨g1, g2, g3⟩ := takeVals_sound h1 (fun p hp => he p (List.mem_append_left _ hp))
            rcases List.mem_cons.1 hx with rfl | hx
            · refine ⟨⟨s, List.mem_cons_self .., by rw [hkey]; simp, rfl, rfl, g1.symm⟩, fun i v hv => ?_⟩
              obtain ⟨c, hc, r1, r2, r3⟩ := g2 i v hv
              exact ⟨c, hc, r1, by omega, r3⟩
            · obtain ⟨⟨s, hs, q⟩, q2⟩ := regroupN_sound h2 (fun p hp => he p (List.mem_append_right _ hp)) x hx
              refine ⟨⟨s, List.mem_cons_of_mem _ hs, q⟩, fun i v hv => ?_⟩
              obtain ⟨c, hc, r⟩ := q2 i v hv
              exact ⟨c, g3 c hc, r⟩

theorem regroupN_nodup {keep : List Key} : ∀ {ss : List (Nat × TypeId × Nat × Key)} {l : List Cell} {bs : List (Nat × TypeId × List Value)} {eqs : List (Value × Value)} {l' : List Cell}, regroupN keep ss l = some (bs, eqs, l') → (∀ p ∈ eqs, p.1 = p.2) →
    ss.Pairwise (fun s s' => (s.2.2.2 = [] ∧ s'.2.2.2 = []) ∨ s.1 ≠ s'.1) → (bs.map Prod.fst).Nodup
  | [], l, bs, eqs, l', h, _, _ => by
    simp only [regroupN, Option.some.injEq, Prod.mk.injEq] at h
    obtain ⟨rfl, rfl, rfl⟩ := h
    exact List.nodup_nil
  | s :: r, l, bs, eqs, l', h, he, hp => by
    rw [List.pairwise_cons] at hp
    simp only [regroupN] at h
    split at h
    · exact regroupN_nodup h he hp.2
    · rename_i hkey
      split at h
      · exact regroupN_nodup h he hp.2
      · split at h
        · cases h
        · rename_i vs e1 l1 h1
          split at h
          · cases h
          · rename_i bs1 e2 l2 h2
            simp only [Option.some.injEq, Prod.mk.injEq] at h
            obtain ⟨rfl, rfl, rfl⟩ := h
            have he2 := fun p hp => he p (List.mem_append_right _ hp)
            simp only [List.map_cons, List.nodup_cons]
            refine ⟨fun hm => ?_, regroupN_nodup h2 he2 hp.2⟩
            obtain ⟨x, hx, e⟩ := List.mem_map.1 hm
            obtain ⟨⟨s', hs', q1, q2, _⟩, _⟩ := regroupN_sound h2 he2 x hx
            rcases hp.1 s' hs' with ⟨q, _⟩ | q
            · rw [hkey] at q; cases q
            · exact q (e ▸ q2.symm)

theorem regroupN_rest {keep : List Key} : ∀ {ss : List (Nat × TypeId × Nat × Key)} {l : List Cell} {bs : List (Nat × TypeId × List Value)} {eqs : List (Value × Value)} {l' : List Cell}, regroupN keep ss l = some (bs, eqs, l') → (∀ p ∈ eqs, p.1 = p.2) → ∀ c ∈ l', c ∈ l
  | [], l, bs, eqs, l', h, _, c, hc => by
    simp only [regroupN, Option.some.injEq, Prod.mk.injEq] at h
    obtain ⟨rfl, rfl, rfl⟩ := h
    exact hc
  | s :: r, l, bs, eqs, l', h, he, c, hc => by
    simp only [regroupN] at h
    split at h
    · exact regroupN_rest h he c hc
    · split at h
      · exact List.mem_of_mem_drop (regroupN_rest h he c hc)
      · split at h
        · cases h
        · rename_i vs e1 l1 h1
          split at h
          · cases h
          · rename_i bs1 e2 l2 h2
            simp only [Option.some.injEq, Prod.mk.injEq] at h
            obtain ⟨rfl, rfl, rfl⟩ := h
            exact (takeVals_sound h1 (fun p hp => he p (List.mem_append_left _ hp))).2.2 c (regroupN_rest h2 (fun p hp => he p (List.mem_append_right _ hp)) c hc)

theorem mem_sizes : ∀ {l : List (Nat × TypeId × List Value)} {s : Nat × TypeId × Nat}, s ∈ sizes l → ∃ x ∈ l, s = (x.1, x.2.1, x.2.2.length)
  | x :: r, s, h => by
    rcases List.mem_cons.1 h with rfl | h
    · exact ⟨x, List.mem_cons_self .., rfl⟩
    · obtain ⟨y, hy, e⟩ := mem_sizes h; exact ⟨y, List.mem_cons_of_mem _ hy, e⟩

theorem of_map_eq {l : List (Value × Value)} (h : l.map Prod.fst = l.map Prod.snd) : ∀ p ∈ l, p.1 = p.2 := by
  induction l with
  | nil => intro p hp; cases hp
  | cons x r ih =>
    simp only [List.map_cons, List.cons.injEq] at h
    intro p hp
    rcases List.mem_cons.1 hp with rfl | hp
    · exact h.1
    · exact ih h.2 p hp

theorem mem_sizes' : ∀ {l : List (Nat × TypeId × List Value)} {x : Nat × TypeId × List Value}, x ∈ l → (x.1, x.2.1, x.2.2.length) ∈ sizes l
  | y :: r, x, h => by
    rcases List.mem_cons.1 h with rfl | h
    · exact List.mem_cons_self ..
    · exact List.mem_cons_of_mem _ (mem_sizes' h)

/-- What stands behind a walk. -/
structure Mem.Post (m : Mem) (w : World) (o : Left) (w' : World) : Prop where
  blocks : ∀ x ∈ o.blocks, Blk w' x.1 x.2.1 x.2.2
  loose : ∀ x ∈ o.loose, w'.cell? ⟨x.1, x.2.1, none⟩ = some x.2.2 ∧ w'.frozen? ⟨x.1, x.2.1, none⟩ = false
  vecs : ∀ x ∈ o.vecs, w'.ownsRow 0 x.e x.size x.v x.n x.xs
  vold : ∀ x ∈ o.vecs, ∀ g, x.v.ownBlock = some g → (∃ y ∈ m.vecs, y.v.ownBlock = some g) ∨ w.heap.size ≤ g
  news : ∀ x ∈ o.news, Blk w' x.1 x.2.1 x.2.2 ∧ w.heap.size ≤ x.1
  nnew : (o.news.map Prod.fst).Nodup
  vnews : ∀ x ∈ o.vecs, ∀ g, x.v.ownBlock = some g → g ∉ o.news.map Prod.fst
  vdist : o.vecs.Pairwise (fun x y => ∀ g, x.v.ownBlock = some g → y.v.ownBlock ≠ some g)
  conds : ∀ p ∈ o.conds, p.1 = p.2
  sub : Sub m.C w w'

theorem Mem.fin_sound {m : Mem} {w w' : World} (hw : m.Met w) {keep : List Key} {st : St} {o : Left} {eqs : List (Value × Value)} (h : m.fin keep st = some (o, eqs)) (he : ∀ p ∈ eqs, p.1 = p.2) (hc : ∀ p ∈ o.conds, p.1 = p.2)
    (hi : Inv m.C w.heap.size w' st) (hs : Sub m.C w w') : m.Post w o w' := by
  unfold Mem.fin at h
  split at h
  · cases h
  · rename_i ns e3 l0 hn
    split at h
    · cases h
    · rename_i bs e1 l1 hb
      split at h
      · cases h
      · rename_i ls e2 l2 hl
        simp only [Option.some.injEq, Prod.mk.injEq] at h
        obtain ⟨rfl, rfl⟩ := h
        have b0 := regroupN_rest hn (fun p hp => he p (by simp [hp]))
        obtain ⟨b1, b2⟩ := regroup_sound hb (fun p hp => he p (by simp [hp]))
        obtain ⟨c1, c2⟩ := reloose_sound hl (fun p hp => he p (by simp [hp]))
        have d1 := regroupN_sound hn (fun p hp => he p (by simp [hp]))
        have d2 := regroupN_nodup hn (fun p hp => he p (by simp [hp])) hi.sdist
        refine ⟨fun x hx => ⟨?_, fun j v hv => ?_⟩, fun x hx => ?_, hi.vec, fun x hx g hg => ?_, fun x hx => ⟨⟨?_, fun j v hv => ?_⟩, ?_⟩, d2, fun x hx g hg hm => ?_, hi.vdist, hc, hs⟩
        · obtain ⟨y, hy, e⟩ := mem_sizes (b1 x hx).1
          simp only [Prod.mk.injEq] at e
          have := (hw.blocks y hy).1
          rw [e.1, hs.shape (lt_of_shape this), this, e.2.1, e.2.2]
        · obtain ⟨d, hd, r1, r2, r3⟩ := (b1 x hx).2 j v hv
          rw [← r1, ← r2]
          exact ⟨hi.cell d (b0 d hd) v r3, hi.free d (b0 d hd)⟩
        · obtain ⟨d, hd, r1, r2, r3⟩ := c1 x hx
          rw [← r1, ← r2]
          exact ⟨hi.cell d (b0 d (b2 d hd)) _ r3, hi.free d (b0 d (b2 d hd))⟩
        · rcases (hi.vsep x hx g hg).2.2 0 with (h1 | h1) | h1
          · -- a cell that was known is known still, and lies in no slice's row
            exfalso
            obtain ⟨c, hcm, hcb, _⟩ := h1
            rcases mem_cellsOf hcm with ⟨y, hy, hd⟩ | hd
            · obtain ⟨i, v, hv, rfl⟩ := mem_blockCells hd
              obtain ⟨z, hz, z1, z2⟩ := regroup_all hb (fun p hp => he p (by simp [hp])) _ (mem_sizes' hy)
              have hlen : i < z.2.2.length := by rw [z2]; exact (List.getElem?_eq_some_iff.1 hv).1
              obtain ⟨d, hd, r1, _⟩ := (b1 z hz).2 i _ (List.getElem?_eq_getElem hlen)
              exact (hi.vsep x hx g hg).1 d (b0 d hd) (by rw [r1, z1]; exact hcb)
            · obtain ⟨y, hy, rfl⟩ := mem_looseCells hd
              obtain ⟨z, hz, z1⟩ := reloose_all hl y hy
              obtain ⟨d, hd, r1, _⟩ := c1 z hz
              exact (hi.vsep x hx g hg).1 d (b0 d (b2 d hd)) (by rw [r1, z1]; exact hcb)
          · exact .inl h1
          · exact .inr h1
        · obtain ⟨s, hs1, s2, s3, s4, s5⟩ := (d1 x hx).1
          rw [← s3, hi.shp s hs1, s4, s5]
        · obtain ⟨d, hd, r1, r2, r3⟩ := (d1 x hx).2 j v hv
          rw [← r1, ← r2]
          exact ⟨hi.cell d hd v r3, hi.free d hd⟩
        · obtain ⟨s, hs1, s2, s3, _⟩ := (d1 x hx).1
          rw [← s3]
          exact (hi.sfresh s hs1).resolve_left s2
        · obtain ⟨y, hy, rfl⟩ := List.mem_map.1 hm
          obtain ⟨s, hs1, s2, s3, _⟩ := (d1 y hy).1
          exact (hi.vsep x hx _ hg).2.1 s hs1 s3
end Go.Proofs.YtmihblocomnfjaaDoor.Sy
