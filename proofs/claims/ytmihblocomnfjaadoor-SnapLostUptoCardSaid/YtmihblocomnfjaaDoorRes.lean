/- Memory of a call's own as a resource: a walk takes a part of it, the rest stays as it is. -/
import Derived.Test.YtmihblocomnfjaaDoorConUse
set_option linter.unusedSimpArgs false
set_option linter.unusedVariables false
namespace Go.Proofs.YtmihblocomnfjaaDoor.Sy
open Go

/-- What a call may change: the old blocks in 'O', new ones; what is known of them. -/
structure Res (W : World) (O : Nat → Prop) (F : List (Nat × TypeId × List Value)) (L : List (Nat × Nat × Value)) (V : List Vec) (w : World) : Prop where
  met : (⟨F, L, [], V, []⟩ : Mem).Met w
  own : ∀ x ∈ F, O x.1 ∨ W.heap.size ≤ x.1
  lown : ∀ x ∈ L, O x.1 ∨ W.heap.size ≤ x.1
  vown : ∀ x ∈ V, ∀ g, x.v.ownBlock = some g → O g ∨ W.heap.size ≤ g
  sub : Sub (fun k _ => O k) W w

def ad (x : Nat × Nat × Value) : Nat × Nat := (x.1, x.2.1)
theorem apart_ad {l : List (Nat × Nat × Value)} : l.Pairwise (fun x y => ¬ (x.1 = y.1 ∧ x.2.1 = y.2.1)) ↔ (l.map ad).Nodup := by
  rw [List.Nodup, List.pairwise_map]
  constructor
  · exact fun h => h.imp fun hh e => hh (by simpa [ad] using e)
  · exact fun h => h.imp fun hh e => hh (by simpa [ad] using e)

theorem Res.start {W : World} {O : Nat → Prop} : Res W O [] [] [] W :=
  ⟨⟨by simp, by simp, by simp, List.Pairwise.nil, by simp, by simp, by simp, by simp, List.Pairwise.nil, by simp⟩, by simp, by simp, by simp, Sub.refl _ _⟩

section
variable {W w w' : World} {O : Nat → Prop} {F F' : List (Nat × TypeId × List Value)} {L L' : List (Nat × Nat × Value)} {V V' : List Vec}

theorem Res.perm (h : Res W O F L V w) (hF : F.Perm F') (hV : V.Perm V') : Res W O F' L V' w := by
  obtain ⟨⟨h1, h2, h3, h4, h5, h6, h7, h8, h9, _⟩, i1, i2, i3, i4⟩ := h
  have hm : F.map Prod.fst |>.Perm (F'.map Prod.fst) := hF.map _
  refine ⟨⟨fun x hx => h1 x (hF.mem_iff.2 hx), hm.nodup_iff.1 h2, h3, h4, fun x hx hh => h5 x hx (hm.mem_iff.2 hh), h6, fun x hx => h7 x (hV.mem_iff.2 hx), fun x hx g hg => ?_, ?_, by simp⟩,
    fun x hx => i1 x (hF.mem_iff.2 hx), i2, fun x hx => i3 x (hV.mem_iff.2 hx), i4⟩
  · obtain ⟨a, b, c⟩ := h8 x (hV.mem_iff.2 hx) g hg
    exact ⟨fun hh => a (hm.mem_iff.2 hh), b, c⟩
  · exact (hV.pairwise_iff (fun {x y} hxy g hg hg' => hxy g hg' hg)).1 h9

theorem Res.less (h : Res W O F L V w) (hF : F'.Sublist F) (hL : L'.Sublist L) (hV : V'.Sublist V) : Res W O F' L' V' w := by
  obtain ⟨⟨h1, h2, h3, h4, h5, h6, h7, h8, h9, _⟩, i1, i2, i3, i4⟩ := h
  refine ⟨⟨fun x hx => h1 x (hF.subset hx), (hF.map _).nodup h2, fun x hx => h3 x (hL.subset hx), h4.sublist hL, fun x hx hh => h5 x (hL.subset hx) ((hF.map _).subset hh), h6, fun x hx => h7 x (hV.subset hx), fun x hx g hg => ?_, h9.sublist hV, by simp⟩,
    fun x hx => i1 x (hF.subset hx), fun x hx => i2 x (hL.subset hx), fun x hx => i3 x (hV.subset hx), i4⟩
  obtain ⟨a, b, c⟩ := h8 x (hV.subset hx) g hg
  exact ⟨fun hh => a ((hF.map _).subset hh), fun y hy => b y (hL.subset hy), c⟩

/-! ### Slices that are looked at element by element -/
structure Open where
  x : Vec
  g : Nat
  cs : List (Nat × Value)
def opL (g : Nat) : List (Nat × Value) → List (Nat × Nat × Value) → List (Nat × Nat × Value)
  | [], l => l
  | c :: r, l => (g, c.1, c.2) :: opL g r l
def opsL : List Open → List (Nat × Nat × Value) → List (Nat × Nat × Value)
  | [], l => l
  | p :: r, l => opL p.g p.cs (opsL r l)
def reL : List (Nat × Value) → List Value → List (Nat × Nat × Value) → List Value
  | [], xs, _ => xs
  | _ :: _, xs, [] => xs
  | c :: r, xs, y :: l => reL r (xs.set c.1 y.2.2) l
def reR : List (Nat × Value) → List (Nat × Nat × Value) → List (Nat × Nat × Value)
  | [], l => l
  | _ :: _, [] => []
  | _ :: r, _ :: l => reR r l
def reV : List Open → List (Nat × Nat × Value) → List Vec
  | [], _ => []
  | p :: r, l => { p.x with xs := reL p.cs p.x.xs l } :: reV r (reR p.cs l)
def reO : List Open → List (Nat × Nat × Value) → List (Nat × Nat × Value)
  | [], l => l
  | p :: r, l => reO r (reR p.cs l)
def reT : List (Nat × Nat × Value) → List (Nat × Nat × Value) → List (Nat × Nat × Value)
  | [], _ => []
  | _ :: _, [] => []
  | _ :: r, y :: l => y :: reT r l
def reD : List (Nat × Nat × Value) → List (Nat × Nat × Value) → List (Nat × Nat × Value)
  | [], l => l
  | _ :: _, [] => []
  | _ :: r, _ :: l => reD r l
def opX : List Open → List Vec
  | [] => []
  | p :: r => p.x :: opX r

structure OpenOk (p : Open) : Prop where
  v : ∃ n c, p.x.v = .slice (some ⟨p.g, 0, none⟩) n c
  nd : (p.cs.map Prod.fst).Nodup
  at_ : ∀ c ∈ p.cs, p.x.xs[c.1]? = some c.2

theorem mem_opL {g : Nat} {l : List (Nat × Nat × Value)} : ∀ {cs : List (Nat × Value)} {y : Nat × Nat × Value}, y ∈ opL g cs l ↔ (∃ c ∈ cs, y = (g, c.1, c.2)) ∨ y ∈ l
  | [], y => by simp [opL]
  | c :: r, y => by
    simp only [opL, List.mem_cons, mem_opL (cs := r)]
    constructor
    · rintro (h | ⟨d, hd, h⟩ | h)
      · exact .inl ⟨c, .inl rfl, h⟩
      · exact .inl ⟨d, .inr hd, h⟩
      · exact .inr h
    · rintro (⟨d, rfl | hd, h⟩ | h)
      · exact .inl h
      · exact .inr (.inl ⟨d, hd, h⟩)
      · exact .inr (.inr h)
theorem mem_opsL {l : List (Nat × Nat × Value)} : ∀ {ops : List Open} {y : Nat × Nat × Value}, y ∈ opsL ops l ↔ (∃ p ∈ ops, ∃ c ∈ p.cs, y = (p.g, c.1, c.2)) ∨ y ∈ l
  | [], y => by simp [opsL]
  | p :: r, y => by
    simp only [opsL, mem_opL, mem_opsL (ops := r), List.mem_cons]
    constructor
    · rintro (⟨c, hc, h⟩ | ⟨q, hq, c, hc, h⟩ | h)
      · exact .inl ⟨p, .inl rfl, c, hc, h⟩
      · exact .inl ⟨q, .inr hq, c, hc, h⟩
      · exact .inr h
    · rintro (⟨q, rfl | hq, c, hc, h⟩ | h)
      · exact .inl ⟨c, hc, h⟩
      · exact .inr (.inl ⟨q, hq, c, hc, h⟩)
      · exact .inr (.inr h)
theorem mem_opX {x : Vec} : ∀ {ops : List Open}, x ∈ opX ops ↔ ∃ p ∈ ops, x = p.x
  | [] => by simp [opX]
  | p :: r => by simp only [opX, List.mem_cons, mem_opX (ops := r), exists_eq_or_imp]

theorem ops_dist : ∀ {ops : List Open}, (opX ops).Pairwise (fun x y => ∀ g, x.v.ownBlock = some g → y.v.ownBlock ≠ some g) → (∀ p ∈ ops, p.x.v.ownBlock = some p.g) → ops.Pairwise (fun p q => p.g ≠ q.g)
  | [], _, _ => List.Pairwise.nil
  | p :: r, h, ho => by
    simp only [opX] at h
    rw [List.pairwise_cons] at h
    exact List.pairwise_cons.2 ⟨fun q hq e => h.1 q.x (mem_opX.2 ⟨q, hq, rfl⟩) p.g (ho p (List.mem_cons_self ..)) (by rw [e]; exact ho q (List.mem_cons_of_mem _ hq)), ops_dist h.2 (fun q hq => ho q (List.mem_cons_of_mem _ hq))⟩

theorem opL_apart {g : Nat} {l : List (Nat × Nat × Value)} (hl : l.Pairwise (fun x y => ¬ (x.1 = y.1 ∧ x.2.1 = y.2.1))) (hg : ∀ y ∈ l, y.1 ≠ g) : ∀ {cs : List (Nat × Value)}, (cs.map Prod.fst).Nodup → (opL g cs l).Pairwise (fun x y => ¬ (x.1 = y.1 ∧ x.2.1 = y.2.1))
  | [], _ => hl
  | c :: r, h => by
    simp only [List.map_cons, List.nodup_cons] at h
    refine List.pairwise_cons.2 ⟨fun y hy hh => ?_, opL_apart hl hg h.2⟩
    rcases mem_opL.1 hy with ⟨d, hd, rfl⟩ | hy
    · exact h.1 (List.mem_map.2 ⟨d, hd, hh.2.symm⟩)
    · exact hg y hy hh.1.symm
theorem opsL_apart {l : List (Nat × Nat × Value)} (hl : l.Pairwise (fun x y => ¬ (x.1 = y.1 ∧ x.2.1 = y.2.1))) : ∀ {ops : List Open}, (∀ p ∈ ops, OpenOk p) → (∀ p ∈ ops, ∀ y ∈ l, y.1 ≠ p.g) → ops.Pairwise (fun p q => p.g ≠ q.g) → (opsL ops l).Pairwise (fun x y => ¬ (x.1 = y.1 ∧ x.2.1 = y.2.1))
  | [], _, _, _ => hl
  | p :: r, ho, hg, hd => by
    rw [List.pairwise_cons] at hd
    refine opL_apart (opsL_apart hl (fun q hq => ho q (List.mem_cons_of_mem _ hq)) (fun q hq => hg q (List.mem_cons_of_mem _ hq)) hd.2) (fun y hy => ?_) (ho p (List.mem_cons_self ..)).nd
    rcases mem_opsL.1 hy with ⟨q, hq, c, _, rfl⟩ | hy
    · exact fun e => hd.1 q hq e.symm
    · exact hg p (List.mem_cons_self ..) y hy

theorem owns_upd {C : Nat → Nat → Prop} {e s n n' g c : Nat} {xs ys : List Value} (h : w.ownsRow 0 e s (.slice (some ⟨g, 0, none⟩) n c) n' xs) (hs : Sub C w w') (hy : ys.length = xs.length)
    (hk : ∀ j, ys[j]? = xs[j]? ∧ ¬ C g j ∨ ∃ v, ys[j]? = some v ∧ w'.cell? ⟨g, j, none⟩ = some v) : w'.ownsRow 0 e s (.slice (some ⟨g, 0, none⟩) n c) n' ys := by
  obtain ⟨h0, ⟨h1, _⟩ | ⟨g', cap, cur, h1, hb, h3, h4, h5, h6, h7⟩⟩ := h
  · cases h1
  · simp only [Value.slice.injEq, Option.some.injEq, Addr.mk.injEq, and_true] at h1
    obtain ⟨rfl, rfl, rfl⟩ := h1
    have hl : g < w.heap.size := (Array.getElem?_eq_some_iff.1 h3).1
    obtain ⟨c', e1, e2, e3⟩ := hs.block g hl _ h3
    refine ⟨by omega, .inr ⟨g, c, c', rfl, hb, e1, h4, h5, by rw [e2]; exact h6, ?_⟩⟩
    refine List.ext_getElem? fun j => ?_
    by_cases hj : j < n * s
    · rw [List.getElem?_take_of_lt hj]
      rcases hk j with ⟨q1, q2⟩ | ⟨v, q1, q2⟩
      · rw [q1, ← h7, List.getElem?_take_of_lt hj]
        have := e3 j q2
        simpa using this
      · rw [q1]
        have hv' : c'[j]? = some v := by simpa [World.cell?, e1] using q2
        simpa using hv'
    · rw [List.getElem?_eq_none (by simp; omega), List.getElem?_eq_none (by omega)]

theorem reL_length : ∀ {cs : List (Nat × Value)} {xs : List Value} {l : List (Nat × Nat × Value)}, (reL cs xs l).length = xs.length
  | [], _, _ => rfl
  | _ :: _, _, [] => rfl
  | c :: r, xs, y :: l => by simp only [reL, reL_length (cs := r), List.length_set]
theorem reL_far {j : Nat} : ∀ {cs : List (Nat × Value)} {xs : List Value} {l : List (Nat × Nat × Value)}, j ∉ cs.map Prod.fst → (reL cs xs l)[j]? = xs[j]?
  | [], _, _, _ => rfl
  | _ :: _, _, [], _ => rfl
  | c :: r, xs, y :: l, h => by
    simp only [List.map_cons, List.mem_cons, not_or] at h
    simp only [reL, reL_far (cs := r) h.2, List.getElem?_set_ne (fun e => h.1 e.symm)]
/-- What was written to an opened element. -/
theorem reL_at {g : Nat} {l0 : List (Nat × Nat × Value)} : ∀ {cs : List (Nat × Value)} {xs : List Value} {l : List (Nat × Nat × Value)}, (cs.map Prod.fst).Nodup → (∀ c ∈ cs, c.1 < xs.length) → l.map ad = (opL g cs l0).map ad →
    ∀ j ∈ cs.map Prod.fst, ∃ v, (reL cs xs l)[j]? = some v ∧ (g, j, v) ∈ l
  | [], _, _, _, _, _, j, hj => by cases hj
  | c :: r, xs, [], _, _, hl, _, _ => by simp [opL] at hl
  | c :: r, xs, y :: l, hn, hlt, hl, j, hj => by
    simp only [List.map_cons, List.nodup_cons] at hn
    simp only [opL, List.map_cons, List.cons.injEq] at hl
    by_cases e : j = c.1
    · subst e
      have hc := hlt c (List.mem_cons_self ..)
      refine ⟨y.2.2, ?_, ?_⟩
      · simp only [reL]
        rw [reL_far hn.1, List.getElem?_set_self hc]
      · have := hl.1
        simp only [ad, Prod.mk.injEq] at this
        rw [← this.1, ← this.2]
        exact List.mem_cons_self ..
    · simp only [List.map_cons, List.mem_cons] at hj
      obtain ⟨v, h1, h2⟩ := reL_at (l0 := l0) (xs := xs.set c.1 y.2.2) hn.2 (fun d hd => by rw [List.length_set]; exact hlt d (List.mem_cons_of_mem _ hd)) hl.2 j (hj.resolve_left e)
      exact ⟨v, h1, List.mem_cons_of_mem _ h2⟩
theorem reR_ad {g : Nat} {l0 : List (Nat × Nat × Value)} : ∀ {cs : List (Nat × Value)} {l : List (Nat × Nat × Value)}, l.map ad = (opL g cs l0).map ad → (reR cs l).map ad = l0.map ad ∧ ∀ y ∈ reR cs l, y ∈ l
  | [], l, h => ⟨h, fun y hy => hy⟩
  | c :: r, [], h => by simp [opL] at h
  | c :: r, y :: l, h => by
    simp only [opL, List.map_cons, List.cons.injEq] at h
    obtain ⟨h1, h2⟩ := reR_ad (cs := r) h.2
    exact ⟨h1, fun z hz => List.mem_cons_of_mem _ (h2 z hz)⟩
/-- The opened slices, behind. -/
theorem reV_at {l0 : List (Nat × Nat × Value)} : ∀ {ops : List Open} {l : List (Nat × Nat × Value)}, l.map ad = (opsL ops l0).map ad → (∀ x ∈ reV ops l, ∃ p ∈ ops, ∃ l1, x = { p.x with xs := reL p.cs p.x.xs l1 } ∧ (∃ l2, l1.map ad = (opL p.g p.cs l2).map ad) ∧ ∀ y ∈ l1, y ∈ l) ∧ (reV ops l).map Vec.v = (opX ops).map Vec.v ∧ (reO ops l).map ad = l0.map ad ∧ ∀ y ∈ reO ops l, y ∈ l
  | [], l, h => ⟨by simp [reV], rfl, h, fun y hy => hy⟩
  | p :: r, l, h => by
    obtain ⟨h1, h2⟩ := reR_ad (cs := p.cs) (g := p.g) (l0 := opsL r l0) h
    obtain ⟨g1, g2, g3, g4⟩ := reV_at (ops := r) h1
    refine ⟨fun x hx => ?_, by simp only [reV, opX, List.map_cons, g2], g3, fun y hy => h2 y (g4 y hy)⟩
    rcases List.mem_cons.1 hx with rfl | hx
    · exact ⟨p, List.mem_cons_self .., l, rfl, ⟨_, h⟩, fun y hy => hy⟩
    · obtain ⟨q, hq, l1, e1, e2, e3⟩ := g1 x hx
      exact ⟨q, List.mem_cons_of_mem _ hq, l1, e1, e2, fun y hy => h2 y (e3 y hy)⟩
theorem reT_ad {l0 : List (Nat × Nat × Value)} : ∀ {L l : List (Nat × Nat × Value)}, l.map ad = (L ++ l0).map ad → (reT L l).map ad = L.map ad ∧ (reD L l).map ad = l0.map ad ∧ (∀ y ∈ reT L l, y ∈ l) ∧ (∀ y ∈ reD L l, y ∈ l)
  | [], l, h => ⟨rfl, h, by simp [reT], fun y hy => hy⟩
  | x :: L, [], h => by simp at h
  | x :: L, y :: l, h => by
    simp only [List.cons_append, List.map_cons, List.cons.injEq] at h
    obtain ⟨h1, h2, h3, h4⟩ := reT_ad (L := L) h.2
    refine ⟨by simp only [reT, List.map_cons, h1, h.1], h2, fun z hz => ?_, fun z hz => List.mem_cons_of_mem _ (h4 z hz)⟩
    rcases List.mem_cons.1 hz with rfl | hz
    · exact List.mem_cons_self ..
    · exact List.mem_cons_of_mem _ (h3 z hz)

variable {GF : List (Nat × TypeId × List Value)} {GL ro : List (Nat × Nat × Value)} {GV : List Vec} {ops : List Open} {rs : List Ro}

/-- A slice that was handed in: none of the known cells lies in it. -/
structure RoW (W : World) (O : Nat → Prop) (ro : List (Nat × Nat × Value)) (r : Ro) : Prop where
  spot : r.a.spot = none
  lt : r.a.block < W.heap.size
  old : ¬ O r.a.block
  at_ : ∀ (j : Nat) u, r.xs[j]? = some u → W.cell? ⟨r.a.block, r.a.off + j, none⟩ = some u ∧ W.frozen? ⟨r.a.block, r.a.off + j, none⟩ = false ∧ ∀ y ∈ ro, ¬ (y.1 = r.a.block ∧ y.2.1 = r.a.off + j)
theorem no_ros {W : World} {O : Nat → Prop} {ro : List (Nat × Nat × Value)} : ∀ r ∈ ([] : List Ro), RoW W O ro r := fun _ h => by cases h
theorem ro_now (h : Sub (fun k _ => O k) W w) (hr : Looks W ro) (hro : ∀ x ∈ ro, ¬ O x.1) : ∀ x ∈ ro, w.cell? ⟨x.1, x.2.1, none⟩ = some x.2.2 ∧ w.frozen? ⟨x.1, x.2.1, none⟩ = false := fun x hx =>
  ⟨h.cell (hr.cell x hx).1 (hro x hx), by rw [h.frozen (lt_of_cell? (hr.cell x hx).1)]; exact (hr.cell x hx).2⟩

/-- The part that a walk takes. -/
theorem Res.part (h : Res W O (F ++ GF) (L ++ GL) (V ++ (opX ops ++ GV)) w) (ho : ∀ p ∈ ops, OpenOk p) (hr : Looks W ro) (hro : ∀ x ∈ ro, ¬ O x.1) (hrs : ∀ r ∈ rs, RoW W O ro r) : (⟨F, L ++ opsL ops ro, [], V, rs⟩ : Mem).Met w := by
  obtain ⟨⟨h1, h2, h3, h4, h5, h6, h7, h8, h9, _⟩, i1, i2, i3, i4⟩ := h
  have hlt : ∀ x ∈ ro, x.1 < W.heap.size := fun x hx => lt_of_cell? (hr.cell x hx).1
  have far : ∀ x ∈ ro, ∀ b, (O b ∨ W.heap.size ≤ b) → x.1 ≠ b := fun x hx b hb e => by
    subst e
    rcases hb with hb | hb
    · exact hro x hx hb
    · have := hlt x hx; omega
  have opv : ∀ p ∈ ops, p.x ∈ V ++ (opX ops ++ GV) := fun p hp => List.mem_append_right _ (List.mem_append_left _ (mem_opX.2 ⟨p, hp, rfl⟩))
  have opb : ∀ p ∈ ops, p.x.v.ownBlock = some p.g := fun p hp => by
    obtain ⟨n, c, e⟩ := (ho p hp).v
    rw [e]; rfl
  have opd : ops.Pairwise (fun p q => p.g ≠ q.g) := ops_dist (List.pairwise_append.1 (List.pairwise_append.1 h9).2.1).1 opb
  have roc := ro_now i4 hr hro
  have opc : ∀ p ∈ ops, ∀ c ∈ p.cs, w.cell? ⟨p.g, c.1, none⟩ = some c.2 ∧ w.frozen? ⟨p.g, c.1, none⟩ = false := fun p hp c hc => by
    obtain ⟨n, k, e⟩ := (ho p hp).v
    have hx := h7 p.x (opv p hp)
    rw [e] at hx
    have hat := (ho p hp).at_ c hc
    have hj : c.1 < p.x.n * p.x.size := by have := (List.getElem?_eq_some_iff.1 hat).1; rw [hx.1] at this; exact this
    have hn : p.x.n = n := by
      rcases hx.2 with ⟨q, _⟩ | ⟨_, _, _, q, _⟩
      · cases q
      · simp only [Value.slice.injEq] at q; exact q.2.1.symm
    rw [hn] at hx hj
    exact ⟨(hx.cellAt c.1 hj).trans hat, hx.frozenAt c.1⟩
  refine ⟨fun x hx => h1 x (List.mem_append_left _ hx), ?_, fun x hx => ?_, ?_, fun x hx hh => ?_, by simp, fun x hx => h7 x (List.mem_append_left _ hx), fun x hx g hg => ?_, (List.pairwise_append.1 h9).1, fun r hrm => ?_⟩
  · simp only [List.map_append] at h2
    exact (List.nodup_append.1 h2).1
  · rcases List.mem_append.1 hx with hx | hx
    · exact h3 x (List.mem_append_left _ hx)
    · rcases mem_opsL.1 hx with ⟨p, hp, c, hc, rfl⟩ | hx
      · exact opc p hp c hc
      · exact roc x hx
  · refine List.pairwise_append.2 ⟨(List.pairwise_append.1 h4).1, opsL_apart hr.apart ho (fun p hp y hy => far y hy p.g (i3 p.x (opv p hp) p.g (opb p hp))) opd, fun x hx y hy hh => ?_⟩
    rcases mem_opsL.1 hy with ⟨p, hp, c, hc, rfl⟩ | hy
    · exact (h8 p.x (opv p hp) p.g (opb p hp)).2.1 x (List.mem_append_left _ hx) hh.1
    · exact far y hy x.1 (i2 x (List.mem_append_left _ hx)) hh.1.symm
  · have hh' : x.1 ∈ (F ++ GF).map Prod.fst := by rw [List.map_append]; exact List.mem_append_left _ hh
    rcases List.mem_append.1 hx with hx | hx
    · exact h5 x (List.mem_append_left _ hx) hh'
    · rcases mem_opsL.1 hx with ⟨p, hp, c, hc, rfl⟩ | hx
      · exact (h8 p.x (opv p hp) p.g (opb p hp)).1 hh'
      · obtain ⟨y, hy, e⟩ := List.mem_map.1 hh'
        exact far x hx y.1 (i1 y hy) e.symm
  · obtain ⟨q1, q2, _⟩ := h8 x (List.mem_append_left _ hx) g hg
    refine ⟨fun hh => q1 (by rw [List.map_append]; exact List.mem_append_left _ hh), fun y hy => ?_, by simp⟩
    rcases List.mem_append.1 hy with hy | hy
    · exact q2 y (List.mem_append_left _ hy)
    · rcases mem_opsL.1 hy with ⟨p, hp, c, hc, rfl⟩ | hy
      · intro e
        simp only at e
        subst e
        exact (List.pairwise_append.1 h9).2.2 x hx p.x (List.mem_append_left _ (mem_opX.2 ⟨p, hp, rfl⟩)) p.g hg (opb p hp)
      · exact far y hy g (i3 x (List.mem_append_left _ hx) g hg)
  · obtain ⟨r1, r2, r3, r4⟩ := hrs r hrm
    have away : ∀ b, (O b ∨ W.heap.size ≤ b) → r.a.block ≠ b := fun b hb e => by
      rcases hb with hb | hb
      · exact r3 (e ▸ hb)
      · omega
    refine ⟨r1, Nat.lt_of_lt_of_le r2 i4.size, fun j u hu => ?_⟩
    obtain ⟨q1, q2, q3⟩ := r4 j u hu
    refine ⟨i4.cell q1 r3, by rw [i4.frozen (a := ⟨r.a.block, r.a.off + j, none⟩) (lt_of_cell? q1)]; exact q2, fun hc => ?_⟩
    rcases hc with ⟨c, hm, e1, e2⟩ | ⟨x, hx, e⟩
    · rcases mem_cellsOf hm with ⟨x, hx, hm⟩ | hm
      · obtain ⟨j', v, _, rfl⟩ := mem_blockCells hm
        exact away x.1 (i1 x (List.mem_append_left _ hx)) e1.symm
      · obtain ⟨y, hy, rfl⟩ := mem_looseCells hm
        rcases List.mem_append.1 hy with hy | hy
        · exact away y.1 (i2 y (List.mem_append_left _ hy)) e1.symm
        · rcases mem_opsL.1 hy with ⟨p, hp, c, hc, rfl⟩ | hy
          · exact away p.g (i3 p.x (opv p hp) p.g (opb p hp)) e1.symm
          · exact q3 y hy ⟨e1, e2⟩
    · exact away _ (i3 x (List.mem_append_left _ hx) _ e) rfl

/-- What stands behind a walk that took a part. -/
theorem Res.post {left : Left} (h : Res W O (F ++ GF) (L ++ GL) (V ++ (opX ops ++ GV)) w) (ho : ∀ p ∈ ops, OpenOk p) (hr : Looks W ro) (hro : ∀ x ∈ ro, ¬ O x.1)
    (hp : (⟨F, L ++ opsL ops ro, [], V, rs⟩ : Mem).Post w left w') (hb : left.blocks.map Prod.fst = F.map Prod.fst) (hl : left.loose.map ad = (L ++ opsL ops ro).map ad) (hre : reO ops (reD L left.loose) = ro) :
    Res W O (left.news ++ (left.blocks ++ GF)) (reT L left.loose ++ GL) (left.vecs ++ (reV ops (reD L left.loose) ++ GV)) w' := by
  obtain ⟨⟨h1, h2, h3, h4, h5, h6, h7, h8, h9, _⟩, i1, i2, i3, i4⟩ := h
  have hlt : ∀ x ∈ ro, x.1 < W.heap.size := fun x hx => lt_of_cell? (hr.cell x hx).1
  have far : ∀ x ∈ ro, ∀ b, (O b ∨ W.heap.size ≤ b) → x.1 ≠ b := fun x hx b hb e => by
    subst e
    rcases hb with hb | hb
    · exact hro x hx hb
    · have := hlt x hx; omega
  have opv : ∀ p ∈ ops, p.x ∈ V ++ (opX ops ++ GV) := fun p hp => List.mem_append_right _ (List.mem_append_left _ (mem_opX.2 ⟨p, hp, rfl⟩))
  have opb : ∀ p ∈ ops, p.x.v.ownBlock = some p.g := fun p hp => by
    obtain ⟨n, c, e⟩ := (ho p hp).v
    rw [e]; rfl
  obtain ⟨t1, t2, t3, t4⟩ := reT_ad hl
  obtain ⟨v1, v2, v3, v4⟩ := reV_at t2
  -- a walk changes the known cells but those that are only looked at
  have hsub : Sub (fun k i => (k ∈ F.map Prod.fst) ∨ (∃ x ∈ L, x.1 = k) ∨ (∃ p ∈ ops, p.g = k ∧ i ∈ p.cs.map Prod.fst) ∨ ∃ x ∈ V, x.v.ownBlock = some k) w w' := hp.sub.less fun k i hc _ => by
    rcases hc with ⟨c, hm, rfl, rfl⟩ | ⟨x, hx, e⟩
    · rcases mem_cellsOf hm with ⟨x, hx, hm⟩ | hm
      · obtain ⟨j, v, _, rfl⟩ := mem_blockCells hm
        exact .inl (.inl (List.mem_map_of_mem hx))
      · obtain ⟨y, hy, rfl⟩ := mem_looseCells hm
        rcases List.mem_append.1 hy with hy | hy
        · exact .inl (.inr (.inl ⟨y, hy, rfl⟩))
        · rcases mem_opsL.1 hy with ⟨p, hp', c, hc, rfl⟩ | hy
          · exact .inl (.inr (.inr (.inl ⟨p, hp', rfl, List.mem_map_of_mem hc⟩)))
          · refine .inr ?_
            have hy' : y ∈ left.loose := by rw [← hre] at hy; exact t4 y (v4 y hy)
            rw [(hp.loose y hy').1, (ro_now i4 hr hro y hy).1]
    · exact .inl (.inr (.inr (.inr ⟨x, hx, e⟩)))
  have own1 : ∀ k i, ((k ∈ F.map Prod.fst) ∨ (∃ x ∈ L, x.1 = k) ∨ (∃ p ∈ ops, p.g = k ∧ i ∈ p.cs.map Prod.fst) ∨ ∃ x ∈ V, x.v.ownBlock = some k) → O k ∨ W.heap.size ≤ k := fun k i hc => by
    rcases hc with hc | ⟨x, hx, rfl⟩ | ⟨p, hp', rfl, _⟩ | ⟨x, hx, e⟩
    · obtain ⟨x, hx, rfl⟩ := List.mem_map.1 hc
      exact i1 x (List.mem_append_left _ hx)
    · exact i2 x (List.mem_append_left _ hx)
    · exact i3 p.x (opv p hp') p.g (opb p hp')
    · exact i3 x (List.mem_append_left _ hx) k e
  have newF : ∀ x ∈ left.news, w.heap.size ≤ x.1 := fun x hx => (hp.news x hx).2
  have oldF : ∀ x ∈ F ++ GF, x.1 < w.heap.size := fun x hx => lt_of_shape (h1 x hx).1
  have oldV : ∀ x ∈ V ++ (opX ops ++ GV), ∀ g, x.v.ownBlock = some g → g < w.heap.size := fun x hx g hg => heap_lt_of_own (h7 x hx) hg
  have oldL : ∀ x ∈ L ++ GL, x.1 < w.heap.size := fun x hx => lt_of_cell? (h3 x hx).1
  have hF2 : ∀ x ∈ left.blocks, ∃ y ∈ F, y.1 = x.1 := fun x hx => by
    have : x.1 ∈ F.map Prod.fst := by rw [← hb]; exact List.mem_map_of_mem hx
    obtain ⟨y, hy, e⟩ := List.mem_map.1 this
    exact ⟨y, hy, e⟩
  have hnd := h2
  rw [List.map_append] at hnd
  have hnd' := List.nodup_append.1 hnd
  -- what is not taken stays
  have gF : ∀ x ∈ GF, ∀ i, ¬ ((x.1 ∈ F.map Prod.fst) ∨ (∃ y ∈ L, y.1 = x.1) ∨ (∃ p ∈ ops, p.g = x.1 ∧ i ∈ p.cs.map Prod.fst) ∨ ∃ y ∈ V, y.v.ownBlock = some x.1) := fun x hx i hc => by
    have hxm : x.1 ∈ (F ++ GF).map Prod.fst := List.mem_map_of_mem (List.mem_append_right _ hx)
    rcases hc with hc | ⟨y, hy, e⟩ | ⟨p, hp', e, _⟩ | ⟨y, hy, e⟩
    · exact hnd'.2.2 _ hc _ (List.mem_map_of_mem hx) rfl
    · exact h5 y (List.mem_append_left _ hy) (by rw [e]; exact hxm)
    · exact (h8 p.x (opv p hp') p.g (opb p hp')).1 (by rw [e]; exact hxm)
    · exact (h8 y (List.mem_append_left _ hy) _ e).1 hxm
  have gL : ∀ x ∈ GL, ¬ ((x.1 ∈ F.map Prod.fst) ∨ (∃ y ∈ L, y.1 = x.1 ∧ y.2.1 = x.2.1) ∨ (∃ p ∈ ops, p.g = x.1 ∧ x.2.1 ∈ p.cs.map Prod.fst) ∨ ∃ y ∈ V, y.v.ownBlock = some x.1) := fun x hx hc => by
    rcases hc with hc | ⟨y, hy, e⟩ | ⟨p, hp', e, _⟩ | ⟨y, hy, e⟩
    · exact h5 x (List.mem_append_right _ hx) (by rw [List.map_append]; exact List.mem_append_left _ hc)
    · exact (List.pairwise_append.1 h4).2.2 y hy x hx e
    · exact (h8 p.x (opv p hp') p.g (opb p hp')).2.1 x (List.mem_append_right _ hx) e.symm
    · exact (h8 y (List.mem_append_left _ hy) _ e).2.1 x (List.mem_append_right _ hx) rfl
  have hsubL : Sub (fun k i => (k ∈ F.map Prod.fst) ∨ (∃ x ∈ L, x.1 = k ∧ x.2.1 = i) ∨ (∃ p ∈ ops, p.g = k ∧ i ∈ p.cs.map Prod.fst) ∨ ∃ x ∈ V, x.v.ownBlock = some k) w w' := hp.sub.less fun k i hc _ => by
    rcases hc with ⟨c, hm, rfl, rfl⟩ | ⟨x, hx, e⟩
    · rcases mem_cellsOf hm with ⟨x, hx, hm⟩ | hm
      · obtain ⟨j, v, _, rfl⟩ := mem_blockCells hm
        exact .inl (.inl (List.mem_map_of_mem hx))
      · obtain ⟨y, hy, rfl⟩ := mem_looseCells hm
        rcases List.mem_append.1 hy with hy | hy
        · exact .inl (.inr (.inl ⟨y, hy, rfl, rfl⟩))
        · rcases mem_opsL.1 hy with ⟨p, hp', c, hc, rfl⟩ | hy
          · exact .inl (.inr (.inr (.inl ⟨p, hp', rfl, List.mem_map_of_mem hc⟩)))
          · refine .inr ?_
            have hy' : y ∈ left.loose := by rw [← hre] at hy; exact t4 y (v4 y hy)
            rw [(hp.loose y hy').1, (ro_now i4 hr hro y hy).1]
    · exact .inl (.inr (.inr (.inr ⟨x, hx, e⟩)))
  have gV : ∀ x ∈ GV, w'.ownsRow 0 x.e x.size x.v x.n x.xs := fun x hx => by
    have hx' : x ∈ V ++ (opX ops ++ GV) := List.mem_append_right _ (List.mem_append_right _ hx)
    refine (h7 x hx').far (fun g hg => hsub.far (oldV x hx' g hg) (fun i hc => ?_))
    rcases hc with hc | ⟨y, hy, e⟩ | ⟨p, hp', e, _⟩ | ⟨y, hy, e⟩
    · exact (h8 x hx' g hg).1 (by rw [List.map_append]; exact List.mem_append_left _ hc)
    · exact (h8 x hx' g hg).2.1 y (List.mem_append_left _ hy) e
    · subst e
      exact (List.pairwise_append.1 (List.pairwise_append.1 h9).2.1).2.2 p.x (mem_opX.2 ⟨p, hp', rfl⟩) x hx _ (opb p hp') hg
    · exact (List.pairwise_append.1 h9).2.2 y hy x (List.mem_append_right _ hx) g e hg
  have rV : ∀ x ∈ reV ops (reD L left.loose), w'.ownsRow 0 x.e x.size x.v x.n x.xs := fun x hx => by
    obtain ⟨p, hp', l1, rfl, ⟨l2, e2⟩, e3⟩ := v1 x hx
    obtain ⟨n, c, ev⟩ := (ho p hp').v
    have hx' := h7 p.x (opv p hp')
    simp only
    rw [ev] at hx' ⊢
    refine owns_upd hx' hsub reL_length (fun j => ?_)
    by_cases hj : j ∈ p.cs.map Prod.fst
    · obtain ⟨v, q1, q2⟩ := reL_at (ho p hp').nd (fun d hd => (List.getElem?_eq_some_iff.1 ((ho p hp').at_ d hd)).1) e2 j hj
      exact .inr ⟨v, q1, (hp.loose _ (t4 _ (e3 _ q2))).1⟩
    · refine .inl ⟨reL_far hj, fun hc => ?_⟩
      rcases hc with hc | ⟨y, hy, e⟩ | ⟨q, hq, e, hm⟩ | ⟨y, hy, e⟩
      · exact (h8 p.x (opv p hp') p.g (opb p hp')).1 (by rw [List.map_append]; exact List.mem_append_left _ hc)
      · exact (h8 p.x (opv p hp') p.g (opb p hp')).2.1 y (List.mem_append_left _ hy) e
      · by_cases hqp : q.x.v = p.x.v ∧ q = p
        · rw [hqp.2] at hm; exact hj hm
        · have hpp : ops.Pairwise (fun p q => p.g ≠ q.g) := ops_dist (List.pairwise_append.1 (List.pairwise_append.1 h9).2.1).1 opb
          obtain ⟨a, ha⟩ := List.mem_iff_getElem?.1 hq
          obtain ⟨b, hb'⟩ := List.mem_iff_getElem?.1 hp'
          by_cases hab : a = b
          · subst hab
            rw [ha] at hb'
            cases hb'
            exact hj hm
          · have ha' := (List.getElem?_eq_some_iff.1 ha)
            have hb2 := (List.getElem?_eq_some_iff.1 hb')
            obtain ⟨ha1, ha2⟩ := ha'
            obtain ⟨hb3, hb4⟩ := hb2
            rcases Nat.lt_or_gt_of_ne hab with hlt' | hlt'
            · exact List.pairwise_iff_getElem.1 hpp a b ha1 hb3 hlt' (by rw [ha2, hb4]; exact e)
            · exact List.pairwise_iff_getElem.1 hpp b a hb3 ha1 hlt' (by rw [ha2, hb4]; exact e.symm)
      · exact (List.pairwise_append.1 h9).2.2 y hy p.x (List.mem_append_left _ (mem_opX.2 ⟨p, hp', rfl⟩)) p.g e (opb p hp')
  have rvv : ∀ x ∈ reV ops (reD L left.loose), ∃ y ∈ opX ops, y.v = x.v := fun x hx => by
    obtain ⟨p, hp', l1, rfl, _⟩ := v1 x hx
    exact ⟨p.x, mem_opX.2 ⟨p, hp', rfl⟩, rfl⟩
  have rest : ∀ x ∈ reV ops (reD L left.loose) ++ GV, ∃ y ∈ opX ops ++ GV, y.v = x.v := fun x hx => by
    rcases List.mem_append.1 hx with hx | hx
    · obtain ⟨y, hy, e⟩ := rvv x hx
      exact ⟨y, List.mem_append_left _ hy, e⟩
    · exact ⟨x, List.mem_append_right _ hx, rfl⟩
  have restd : (reV ops (reD L left.loose) ++ GV).Pairwise (fun x y => ∀ g, x.v.ownBlock = some g → y.v.ownBlock ≠ some g) := by
    have hpw := (List.pairwise_append.1 h9).2.1
    have key : ∀ {l : List Vec}, l.Pairwise (fun x y => ∀ g, x.v.ownBlock = some g → y.v.ownBlock ≠ some g) ↔ (l.map Vec.v).Pairwise (fun x y => ∀ g, Value.ownBlock x = some g → Value.ownBlock y ≠ some g) := fun {l} => by rw [List.pairwise_map]
    rw [key] at hpw ⊢
    rw [List.map_append] at hpw ⊢
    rw [v2]
    exact hpw
  have newV : ∀ x ∈ left.vecs, ∀ g, x.v.ownBlock = some g → (∃ y ∈ V, y.v.ownBlock = some g) ∨ w.heap.size ≤ g := fun x hx g hg => hp.vold x hx g hg
  have looseL : ∀ x ∈ reT L left.loose, ∃ y ∈ L, y.1 = x.1 ∧ y.2.1 = x.2.1 := fun x hx => by
    have : ad x ∈ L.map ad := by rw [← t1]; exact List.mem_map_of_mem hx
    obtain ⟨y, hy, e⟩ := List.mem_map.1 this
    simp only [ad, Prod.mk.injEq] at e
    exact ⟨y, hy, e.1, e.2⟩
  have looseG : ∀ x ∈ reT L left.loose ++ GL, ∃ y ∈ L ++ GL, y.1 = x.1 ∧ y.2.1 = x.2.1 := fun x hx => by
    rcases List.mem_append.1 hx with hx | hx
    · obtain ⟨y, hy, e⟩ := looseL x hx
      exact ⟨y, List.mem_append_left _ hy, e⟩
    · exact ⟨x, List.mem_append_right _ hx, rfl, rfl⟩
  have blockG : ∀ x ∈ left.blocks ++ GF, ∃ y ∈ F ++ GF, y.1 = x.1 := fun x hx => by
    rcases List.mem_append.1 hx with hx | hx
    · obtain ⟨y, hy, e⟩ := hF2 x hx
      exact ⟨y, List.mem_append_left _ hy, e⟩
    · exact ⟨x, List.mem_append_right _ hx, rfl⟩
  have memB : ∀ b, b ∈ (left.news ++ (left.blocks ++ GF)).map Prod.fst → (∃ x ∈ left.news, x.1 = b) ∨ b ∈ (F ++ GF).map Prod.fst := fun b hb' => by
    obtain ⟨x, hx, rfl⟩ := List.mem_map.1 hb'
    rcases List.mem_append.1 hx with hx | hx
    · exact .inl ⟨x, hx, rfl⟩
    · obtain ⟨y, hy, e⟩ := blockG x hx
      exact .inr (e ▸ List.mem_map_of_mem hy)
  refine ⟨⟨fun x hx => ?_, ?_, fun x hx => ?_, ?_, fun x hx hh => ?_, by simp, fun x hx => ?_, fun x hx g hg => ⟨fun hh => ?_, fun y hy e => ?_, by simp⟩, ?_, by simp⟩, fun x hx => ?_, fun x hx => ?_, fun x hx g hg => ?_, ?_⟩
  · rcases List.mem_append.1 hx with hx | hx
    · exact (hp.news x hx).1
    · rcases List.mem_append.1 hx with hx | hx
      · exact hp.blocks x hx
      · have hx1 := h1 x (List.mem_append_right _ hx)
        have hlt1 := lt_of_shape hx1.1
        have e : w'.heap[x.1]? = w.heap[x.1]? := hsub.far hlt1 (gF x hx)
        exact ⟨by rw [hsub.shape hlt1]; exact hx1.1, fun j v hv => ⟨by simp only [World.cell?, e]; exact (hx1.2 j v hv).1, by simp only [World.frozen?, e]; exact (hx1.2 j v hv).2⟩⟩
  · simp only [List.map_append]
    refine List.nodup_append.2 ⟨hp.nnew, ?_, fun a ha b hb' e => ?_⟩
    · rw [hb]; exact hnd
    · obtain ⟨x, hx, rfl⟩ := List.mem_map.1 ha
      have h10 := newF x hx
      rw [hb, ← List.map_append] at hb'
      obtain ⟨y, hy, rfl⟩ := List.mem_map.1 hb'
      have := oldF y hy
      omega
  · rcases List.mem_append.1 hx with hx | hx
    · exact hp.loose x (t3 x hx)
    · have hc := h3 x (List.mem_append_right _ hx)
      exact ⟨hsubL.cell hc.1 (gL x hx), by rw [hsub.frozen (lt_of_cell? hc.1)]; exact hc.2⟩
  · rw [apart_ad, List.map_append, t1, ← List.map_append, ← apart_ad]
    exact h4
  · obtain ⟨y, hy, e1, _⟩ := looseG x hx
    rcases memB _ hh with ⟨z, hz, e⟩ | hh
    · have := newF z hz
      have := oldL y hy
      omega
    · exact h5 y hy (by rw [e1]; exact hh)
  · rcases List.mem_append.1 hx with hx | hx
    · exact hp.vecs x hx
    · rcases List.mem_append.1 hx with hx | hx
      · exact rV x hx
      · exact gV x hx
  · rcases List.mem_append.1 hx with hx | hx
    · rcases memB _ hh with ⟨z, hz, e⟩ | hh
      · exact hp.vnews x hx g hg (e ▸ List.mem_map_of_mem hz)
      · rcases newV x hx g hg with ⟨y, hy, hy'⟩ | h10
        · exact (h8 y (List.mem_append_left _ hy) g hy').1 hh
        · obtain ⟨z, hz, rfl⟩ := List.mem_map.1 hh
          have := oldF z hz
          omega
    · obtain ⟨y, hy, e⟩ := rest x hx
      rw [← e] at hg
      rcases memB _ hh with ⟨z, hz, e⟩ | hh
      · have := newF z hz
        have := oldV y (List.mem_append_right _ hy) g hg
        omega
      · exact (h8 y (List.mem_append_right _ hy) g hg).1 hh
  · obtain ⟨u, hu, e1, _⟩ := looseG y hy
    rcases List.mem_append.1 hx with hx | hx
    · rcases newV x hx g hg with ⟨z, hz, hz'⟩ | h10
      · exact (h8 z (List.mem_append_left _ hz) g hz').2.1 u hu (by rw [e1, e])
      · have := oldL u hu
        omega
    · obtain ⟨z, hz, e2⟩ := rest x hx
      rw [← e2] at hg
      exact (h8 z (List.mem_append_right _ hz) g hg).2.1 u hu (by rw [e1, e])
  · refine List.pairwise_append.2 ⟨hp.vdist, restd, fun x hx y hy g hg hg' => ?_⟩
    obtain ⟨z, hz, e⟩ := rest y hy
    rw [← e] at hg'
    rcases newV x hx g hg with ⟨u, hu, hu'⟩ | h10
    · exact (List.pairwise_append.1 h9).2.2 u hu z hz g hu' hg'
    · have := oldV z (List.mem_append_right _ hz) g hg'
      omega
  · rcases List.mem_append.1 hx with hx | hx
    · exact .inr (Nat.le_trans i4.size (newF x hx))
    · obtain ⟨y, hy, e⟩ := blockG x hx
      rw [← e]
      exact i1 y hy
  · obtain ⟨y, hy, e1, _⟩ := looseG x hx
    rw [← e1]
    exact i2 y hy
  · rcases List.mem_append.1 hx with hx | hx
    · rcases newV x hx g hg with ⟨u, hu, hu'⟩ | h10
      · exact i3 u (List.mem_append_left _ hu) g hu'
      · exact .inr (Nat.le_trans i4.size h10)
    · obtain ⟨z, hz, e⟩ := rest x hx
      rw [← e] at hg
      exact i3 z (List.mem_append_right _ hz) g hg
  · exact Sub.trans (B := W.heap.size) i4 (hsub.mono fun k i hc => own1 k i hc) (Nat.le_refl _)
end

/-- **A function's own code from cut to cut, over a part of what is the call's own.** -/
theorem Res.seg {P : Program} (H : Host P) (fn : Func) (s : Seg) (nt : Notes) {o : (Key → Nat) → (Nat → Value) → Fin × List (Nat × Value) × Left}
    (h1 : ∀ ν j, (s.run H fn nt ν j).map Prod.fst = some (o ν j)) (h2 : ∀ ν j, (s.run H fn nt ν j).map lefts = (s.run H fn nt ν j).map rights)
    {W w : World} {O : Nat → Prop} {F GF : List (Nat × TypeId × List Value)} {L GL ro : List (Nat × Nat × Value)} {V GV : List Vec} {ops : List Open} {rs : List Ro}
    (h : Res W O (F ++ GF) (L ++ GL) (V ++ (opX ops ++ GV)) w) (ho : ∀ p ∈ ops, OpenOk p) (hr : Looks W ro) (hro : ∀ x ∈ ro, ¬ O x.1) (hrs : ∀ r ∈ rs, RoW W O ro r)
    (hs : s.mem = ⟨F, L ++ opsL ops ro, [], V, rs⟩) (hc : ∀ ν j, ∀ p ∈ (o ν j).2.2.conds, p.1 = p.2)
    (hb : ∀ ν j, (o ν j).2.2.blocks.map Prod.fst = F.map Prod.fst) (hl : ∀ ν j, (o ν j).2.2.loose.map ad = (L ++ opsL ops ro).map ad) (hre : ∀ ν j, reO ops (reD L (o ν j).2.2.loose) = ro)
    {X : Nat → Act → World → Prop} {R : Ending → World → Prop} {a : Act} (ha : Fr fn.ntmps s.known a)
    (hQ : ∀ ν j a' w', Fr fn.ntmps (o ν j).2.1 a' → Res W O ((o ν j).2.2.news ++ ((o ν j).2.2.blocks ++ GF)) (reT L (o ν j).2.2.loose ++ GL) ((o ν j).2.2.vecs ++ (reV ops (reD L (o ν j).2.2.loose) ++ GV)) w' → Owed P fn X R (o ν j).1 a' w') :
    after P X (bodyPost P fn R) s.items .normal a w :=
  Seg.wp H fn s nt h1 h2 hc ha (by rw [hs]; exact h.part ho hr hro hrs) fun ν j a' w' hfr hp => hQ ν j a' w' hfr (h.post ho hr hro (hs ▸ hp) (hb ν j) (hl ν j) (hre ν j))

/-- What a contract's function may take for its own: the slices that were handed in. -/
theorem Res.rows {w : World} {l : List (Nat × Nat × Value)} {R : List Vec} (hr : RowsOk w l R) : Res w (fun k => ∃ x ∈ R, x.v.ownBlock = some k) [] [] R w :=
  ⟨⟨by simp, by simp, by simp, List.Pairwise.nil, by simp, by simp, hr.row, fun x hx g hg => ⟨by simp, by simp, by simp⟩, hr.dist, by simp⟩, by simp, by simp, fun x hx g hg => .inl ⟨x, hx, hg⟩, Sub.refl _ _⟩
end Go.Proofs.YtmihblocomnfjaaDoor.Sy
