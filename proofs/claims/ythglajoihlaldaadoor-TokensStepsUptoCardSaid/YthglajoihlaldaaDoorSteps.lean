/- TokensSteps: the walk whole. -/
import Derived.Test.YthglajoihlaldaaDoorStepsB
namespace Go.Proofs.YthglajoihlaldaaDoor.steps
open Go Sy Close
set_option maxRecDepth 100000
open tok (TOp bktL off_bkt far_bkt own_bkt)
theorem body : Tryd.f5.body = some (codeOf Tryd.f5) := by kernel_rfl
theorem ntmps : 4 ≤ Tryd.f5.ntmps := by decide +kernel
/-- The blocks of a bucket, of its operations, of the slices: each apart from the others. -/
structure Lay (W : World) (b c ws : Nat) (us : List Tk.TU) (ps : List Nat) (su sp : Option Addr) (e u : Int) (w : World) : Prop where
  hb : W.heap.size ≤ b
  hc : W.heap.size ≤ c
  hws : W.heap.size ≤ ws
  objs : Objs W w (pRow b) us ps
  pb : ∀ p ∈ ps, b ≠ p ∧ c ≠ p ∧ ws ≠ p
  bu : ∀ g, At su g → W.heap.size ≤ g ∧ g ∉ ps ∧ b ≠ g ∧ c ≠ g ∧ ws ≠ g
  bp : ∀ g, At sp g → W.heap.size ≤ g ∧ g ∉ ps ∧ b ≠ g ∧ c ≠ g ∧ ws ≠ g
  bup : ∀ g, At su g → ¬ At sp g
  good : ∀ x ∈ us, Tk.Good x ∧ Tk.Room e u x
structure L1 (W : World) (b c ws : Nat) (us : List Tk.TU) (ps : List Nat) (su sp : Option Addr) (n cu cp : Nat) (e u : Int) (w : World) : Prop where
  own : Own W (bktL b c ws e u 0 usesC) w
  lay : Lay W b c ws us ps su sp e u w
  len : n = us.length
  ou : w.ownsRow 0 59 9 (.slice su n cu) n (us.flatMap uRow)
  op : w.ownsRow 0 40 1 (.slice sp n cp) n (ps.flatMap fun p => [ptrV p])
theorem L1.met {W w : World} {b c ws : Nat} {us : List Tk.TU} {ps : List Nat} {su sp : Option Addr} {n cu cp : Nat} {e u : Int} (h : L1 W b c ws us ps su sp n cu cp e u w) (hU : UsesAt W) {l : List (Nat × Nat × Value)} (hl : Sy.Looks w l) (ho : ∀ g, W.heap.size ≤ g → Off g (bktL b c ws e u 0 usesC) → Off g l) :
    ({ loose := l, vecs := stepsV su n cu sp cp (us.flatMap uRow) (ps.flatMap fun p => [ptrV p]) } : Mem).Met w := by
  refine looks_met_v hl (fun x hx => ?_) (fun x hx g hg => ?_) ?_
  · simp only [stepsV, List.mem_cons, List.not_mem_nil, or_false] at hx
    rcases hx with rfl | rfl
    · exact h.ou
    · exact h.op
  · simp only [stepsV, List.mem_cons, List.not_mem_nil, or_false] at hx
    rcases hx with rfl | rfl
    · obtain ⟨h1, _, h3, h4, h5⟩ := h.lay.bu g (own_at hg)
      exact ho g h1 (off_bkt h3 h4 h5 (off_uses hU h1))
    · obtain ⟨h1, _, h3, h4, h5⟩ := h.lay.bp g (own_at hg)
      exact ho g h1 (off_bkt h3 h4 h5 (off_uses hU h1))
  · refine List.pairwise_cons.2 ⟨fun x hx g hg hg' => ?_, List.pairwise_singleton ..⟩
    simp only [List.mem_singleton] at hx
    subst hx
    exact h.lay.bup g (own_at hg) (own_at hg')
theorem vecs_at {W w : World} {b c ws : Nat} {us : List Tk.TU} {ps : List Nat} {su sp : Option Addr} {e u : Int} {n cu cp : Nat} {xs ys : List Value} (h : Lay W b c ws us ps su sp e u w) : ∀ x ∈ stepsV su n cu sp cp xs ys, ∀ g, x.v.ownBlock = some g → W.heap.size ≤ g ∧ g ∉ ps ∧ b ≠ g ∧ c ≠ g ∧ ws ≠ g := by
  intro x hx g hg
  simp only [stepsV, List.mem_cons, List.not_mem_nil, or_false] at hx
  rcases hx with rfl | rfl
  · exact h.bu g (own_at hg)
  · exact h.bp g (own_at hg)

/-- One more operation. -/
theorem L1.push {W w w' : World} {b c ws : Nat} {us : List Tk.TU} {ps : List Nat} {su sp : Option Addr} {n cu cp : Nat} {e u : Int} (h : L1 W b c ws us ps su sp n cu cp e u w) {l : List (Nat × Nat × Value)} {left : Sy.Left} (hl : Sy.Looks w l)
    (hp : ({ loose := l, vecs := stepsV su n cu sp cp (us.flatMap uRow) (ps.flatMap fun p => [ptrV p]) } : Mem).Post w left w') (hk : Kept l left.loose []) (hs : (bktL b c ws e u 0 usesC).Sublist left.loose) {k a m : Int} {p gu gp cu' cp' t : Nat} (hr : Tk.right k a m = true)
    (hv : left.vecs = stepsV (some ⟨gu, 0, none⟩) (addV n 1) cu' (some ⟨gp, 0, none⟩) cp' (us.flatMap uRow ++ uRow { kind := k, at_ := a, n := m }) ((ps.flatMap fun p => [ptrV p]) ++ [ptrV p])) (hn : left.news = [(p, t, pRow b { kind := k, at_ := a, n := m })]) :
    L1 W b c ws (us ++ [{ kind := k, at_ := a, n := m }]) (ps ++ [p]) (some ⟨gu, 0, none⟩) (some ⟨gp, 0, none⟩) (n + 1) cu' cp' e u w' := by
  have hsub := post_sub_v hl hp hk
  have hC : ∀ q ∈ ps, ∀ i : Nat, ¬ ((∃ x ∈ ([] : List (Nat × Nat × Value)), x.1 = q ∧ x.2.1 = i) ∨ ∃ x ∈ stepsV su n cu sp cp (us.flatMap uRow) (ps.flatMap fun p => [ptrV p]), x.v.ownBlock = some q) := fun q hq i hh => by
    rcases hh with ⟨x, hx, _⟩ | ⟨x, hx, e1⟩
    · cases hx
    · exact (vecs_at h.lay x hx q e1).2.1 hq
  obtain ⟨n1, m1⟩ := hp.news _ (by rw [hn]; exact List.mem_cons_self ..)
  have own' := h.own.stepV hl hp hk st_nil (fun x hx g hg => (vecs_at h.lay x hx g hg).1) hs h.own.far
  have lb : b < w.heap.size ∧ c < w.heap.size ∧ ws < w.heap.size := by
    refine ⟨looks_lt h.own.looks (x := (b, 0, .pointer (some ⟨c, 0, none⟩))) ?_, looks_lt h.own.looks (x := (c, 0, .slice (some ⟨ws, 0, none⟩) 1 1)) ?_, looks_lt h.own.looks (x := (ws, 0, .int .u64 0)) ?_⟩ <;> simp [bktL]
  -- where the slices lie now
  have blk : ∀ x ∈ left.vecs, ∀ g, x.v.ownBlock = some g → W.heap.size ≤ g ∧ g ∉ ps ++ [p] ∧ b ≠ g ∧ c ≠ g ∧ ws ≠ g := fun x hx g hg => by
    have hne : g ≠ p := fun e1 => by
      have := hp.vnews x hx g hg
      rw [hn] at this
      simp at this
      exact this e1
    rcases hp.vold x hx g hg with ⟨y, hy, hy'⟩ | hge
    · obtain ⟨q1, q2, q3, q4, q5⟩ := vecs_at h.lay y hy g hy'
      exact ⟨q1, by simp [q2, hne], q3, q4, q5⟩
    · have := h.own.size
      refine ⟨by omega, ?_, by omega, by omega, by omega⟩
      simp only [List.mem_append, List.mem_singleton, not_or]
      exact ⟨fun hm => by have := (h.lay.objs.new g hm).2; omega, hne⟩
  have v1 := hp.vecs _ (by rw [hv]; exact List.mem_cons_self ..)
  have v2 := hp.vecs _ (by rw [hv]; exact List.mem_cons_of_mem _ (List.mem_cons_self ..))
  have vd := hp.vdist
  rw [hv] at vd blk
  simp only [addV_eq] at v1 v2 vd blk
  refine ⟨own', ⟨h.lay.hb, h.lay.hc, h.lay.hws, h.lay.objs.push hsub hC n1 m1 h.own.size, fun q hq => ?_, fun g ⟨a0, e1, e2⟩ => ?_, fun g ⟨a0, e1, e2⟩ => ?_, fun g ⟨a0, e1, e2⟩ ⟨a1, e3, e4⟩ => ?_, fun x hx => ?_⟩, ?_, ?_, ?_⟩
  · rcases List.mem_append.1 hq with hq | hq
    · exact h.lay.pb q hq
    · simp only [List.mem_singleton] at hq
      rw [hq]
      exact ⟨by omega, by omega, by omega⟩
  · cases e1; cases e2
    exact blk _ (List.mem_cons_self ..) gu rfl
  · cases e1; cases e2
    exact blk _ (List.mem_cons_of_mem _ (List.mem_cons_self ..)) gp rfl
  · cases e1; cases e2; cases e3
    simp only at e4
    exact (List.pairwise_cons.1 vd).1 _ (List.mem_cons_self ..) gu rfl (by rw [← e4]; rfl)
  · rcases List.mem_append.1 hx with hx | hx
    · exact h.lay.good x hx
    · simp only [List.mem_singleton] at hx
      rw [hx]
      exact ⟨Tk.good_new hr, fun hh => by cases hh⟩
  · simp [h.len]
  · rw [List.flatMap_append]
    simpa using v1
  · rw [List.flatMap_append]
    simpa using v2
/-- No operation more. -/
theorem L1.same {W w w' : World} {b c ws : Nat} {us : List Tk.TU} {ps : List Nat} {su sp : Option Addr} {n cu cp : Nat} {e u : Int} (h : L1 W b c ws us ps su sp n cu cp e u w) {l : List (Nat × Nat × Value)} {left : Sy.Left} (hl : Sy.Looks w l)
    (hp : ({ loose := l, vecs := stepsV su n cu sp cp (us.flatMap uRow) (ps.flatMap fun p => [ptrV p]) } : Mem).Post w left w') (hk : Kept l left.loose []) (hs : (bktL b c ws e u 0 usesC).Sublist left.loose)
    (hv : left.vecs = stepsV su n cu sp cp (us.flatMap uRow) (ps.flatMap fun p => [ptrV p])) : L1 W b c ws us ps su sp n cu cp e u w' := by
  have hsub := post_sub_v hl hp hk
  have hC : ∀ q ∈ ps, ∀ i : Nat, ¬ ((∃ x ∈ ([] : List (Nat × Nat × Value)), x.1 = q ∧ x.2.1 = i) ∨ ∃ x ∈ stepsV su n cu sp cp (us.flatMap uRow) (ps.flatMap fun p => [ptrV p]), x.v.ownBlock = some q) := fun q hq i hh => by
    rcases hh with ⟨x, hx, _⟩ | ⟨x, hx, e1⟩
    · cases hx
    · exact (vecs_at h.lay x hx q e1).2.1 hq
  exact ⟨h.own.stepV hl hp hk st_nil (fun x hx g hg => (vecs_at h.lay x hx g hg).1) hs h.own.far, ⟨h.lay.hb, h.lay.hc, h.lay.hws, h.lay.objs.stay hsub hC, h.lay.pb, h.lay.bu, h.lay.bp, h.lay.bup, h.lay.good⟩, h.len,
    hp.vecs _ (by rw [hv]; exact List.mem_cons_self ..), hp.vecs _ (by rw [hv]; exact List.mem_cons_of_mem _ (List.mem_cons_self ..))⟩

/-- What stands at the second loop's head. -/
structure L2 (W : World) (b c ws : Nat) (us : List Tk.TU) (ps : List Nat) (su sp : Option Addr) (n : Nat) (e u t : Int) (w : World) : Prop where
  own : Own W (bktL b c ws e u t usesC) w
  lay : Lay W b c ws us ps su sp e u w
  len : n = us.length
  au : Arr w 9 uRow su us
  ap : Arr w 1 (fun p => [ptrV p]) sp ps
  inT : Tk.inT t = true
theorem Lay.stay {W w w' : World} {b c ws : Nat} {us : List Tk.TU} {ps : List Nat} {su sp : Option Addr} {e u : Int} {C : Nat → Nat → Prop} (h : Lay W b c ws us ps su sp e u w) (hs : Sub C w w') (hC : ∀ p ∈ ps, ∀ i, ¬ C p i) : Lay W b c ws us ps su sp e u w' :=
  ⟨h.hb, h.hc, h.hws, h.objs.stay hs hC, h.pb, h.bu, h.bp, h.bup, h.good⟩
theorem L1.next {W w w' : World} {b c ws : Nat} {us : List Tk.TU} {ps : List Nat} {su sp : Option Addr} {n cu cp : Nat} {e u : Int} (h : L1 W b c ws us ps su sp n cu cp e u w) {left : Sy.Left} (hp : ({} : Mem).Post w left w') : L2 W b c ws us ps su sp n e u 0 w' := by
  have hs : Sub (fun _ _ => False) w w' := hp.sub.less fun k i hc _ => by
    rcases hc with ⟨c, hm, _⟩ | ⟨x, hx, _⟩
    · cases hm
    · cases hx
  exact ⟨h.own.stepN hp, h.lay.stay hs (fun _ _ _ => id), h.len, (arr_of_owns h.ou h.len rfl (by simp [uRow])).stay hs (fun _ _ _ => id), (arr_of_owns h.op (by rw [h.lay.objs.len]; exact h.len) rfl (by simp)).stay hs (fun _ _ _ => id), rfl⟩
theorem L2.same {W w w' : World} {b c ws : Nat} {us : List Tk.TU} {ps : List Nat} {su sp : Option Addr} {n : Nat} {e u t : Int} (h : L2 W b c ws us ps su sp n e u t w) {l : List (Nat × Nat × Value)} {left : Sy.Left} (hl : Sy.Looks w l) (hp : ({ loose := l } : Mem).Post w left w') (hk : Kept l left.loose []) : L2 W b c ws us ps su sp n e u t w' := by
  have hs : Sub (fun _ _ => False) w w' := (post_sub hl hp hk).mono (fun k i ⟨x, hx, _⟩ => by cases hx)
  exact ⟨⟨⟨fun x hx => sub_cell hs (h.own.looks.cell x hx) id, h.own.looks.apart⟩, h.own.old.next hs (fun _ _ => False.elim), h.own.far⟩, h.lay.stay hs (fun _ _ _ => id), h.len, h.au.stay hs (fun _ _ _ => id), h.ap.stay hs (fun _ _ _ => id), h.inT⟩
end Go.Proofs.YthglajoihlaldaaDoor.steps
