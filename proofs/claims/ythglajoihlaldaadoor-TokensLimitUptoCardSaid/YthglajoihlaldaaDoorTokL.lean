/- Token buckets: a list of operations that are begun, then stepped; beside it other slices of the call's own. -/
import Derived.Test.YthglajoihlaldaaDoorTokH
import Derived.Test.YthglajoihlaldaaDoorObj
namespace Go.Proofs.YthglajoihlaldaaDoor.tokl
open Go Sy Close tok
set_option maxRecDepth 100000
/-- An operation under way, as the program has it. -/
def pRow (b : Nat) (x : Tk.TU) : List Value := [ptrV b, .int .u8 x.kind, .int .i64 x.at_, .int .i64 x.n, .func (.func (nextF x.put)) #[] #[], .int .u64 x.saw, .bool x.over, .bool x.ok, .int .i64 x.wait, .int .i64 x.left]
/-- A block that is neither the bucket's nor an operation's. -/
structure Free (W : World) (b c ws : Nat) (ps : List Nat) (g : Nat) : Prop where
  new : W.heap.size ≤ g
  ps : g ∉ ps
  b : b ≠ g
  c : c ≠ g
  ws : ws ≠ g
/-- The blocks of a bucket, of its operations, of the slice of them. -/
structure Lay (W : World) (b c ws : Nat) (us : List Tk.TU) (ps : List Nat) (sp : Option Addr) (e u : Int) (w : World) : Prop where
  hb : W.heap.size ≤ b
  hc : W.heap.size ≤ c
  hws : W.heap.size ≤ ws
  objs : Objs W w (pRow b) us ps
  pb : ∀ p ∈ ps, b ≠ p ∧ c ≠ p ∧ ws ≠ p
  bp : ∀ g, At sp g → Free W b c ws ps g
  good : ∀ x ∈ us, Tk.Good x ∧ Tk.Room e u x
theorem Lay.stay {W w w' : World} {b c ws : Nat} {us : List Tk.TU} {ps : List Nat} {sp : Option Addr} {e u : Int} {C : Nat → Nat → Prop} (h : Lay W b c ws us ps sp e u w) (hs : Sub C w w') (hC : ∀ p ∈ ps, ∀ i, ¬ C p i) : Lay W b c ws us ps sp e u w' :=
  ⟨h.hb, h.hc, h.hws, h.objs.stay hs hC, h.pb, h.bp, h.good⟩
abbrev pVec (sp : Option Addr) (n cp : Nat) (ps : List Nat) : Vec := ⟨40, 1, .slice sp n cp, n, ps.flatMap fun p => [ptrV p]⟩
/-- Operations are begun; 'vo': the other slices. -/
structure Beg (W : World) (b c ws : Nat) (us : List Tk.TU) (ps : List Nat) (sp : Option Addr) (n cp : Nat) (vo : List Vec) (e u : Int) (w : World) : Prop where
  own : Own W (bktL b c ws e u 0 usesC) w
  lay : Lay W b c ws us ps sp e u w
  len : n = us.length
  fresh : ∀ x ∈ us, x.put = false
  vec : ∀ x ∈ pVec sp n cp ps :: vo, w.ownsRow 0 x.e x.size x.v x.n x.xs
  free : ∀ x ∈ pVec sp n cp ps :: vo, ∀ g, x.v.ownBlock = some g → Free W b c ws ps g
  dist : (pVec sp n cp ps :: vo).Pairwise (fun x y => ∀ g, x.v.ownBlock = some g → y.v.ownBlock ≠ some g)
section
variable {W w w' : World} {b c ws : Nat} {us : List Tk.TU} {ps : List Nat} {sp : Option Addr} {n cp : Nat} {vo : List Vec} {e u : Int}
theorem Beg.start {t1 t2 t3 : Nat} (hU : UsesAt W) (h0 : Own W usesC w) (n1 : Blk w b t1 [.pointer (some ⟨c, 0, none⟩), .int .i64 e, .int .i64 u] ∧ W.heap.size ≤ b) (n2 : Blk w c t2 [.slice (some ⟨ws, 0, none⟩) 1 1] ∧ W.heap.size ≤ c) (n3 : Blk w ws t3 [.int .u64 0] ∧ W.heap.size ≤ ws)
    (h1 : b ≠ c) (h2 : b ≠ ws) (h3 : c ≠ ws) (hvo : ∀ x ∈ vo, x.v = .slice none 0 0 ∧ x.n = 0 ∧ x.xs = []) : Beg W b c ws [] [] none 0 0 vo e u w := by
  have hnil : ∀ x ∈ pVec none 0 0 [] :: vo, x.v = .slice none 0 0 ∧ x.n = 0 ∧ x.xs = [] := fun x hx => by
    rcases List.mem_cons.1 hx with rfl | hx
    · exact ⟨rfl, rfl, rfl⟩
    · exact hvo x hx
  have hno : ∀ x ∈ pVec none 0 0 [] :: vo, ∀ g, x.v.ownBlock ≠ some g := fun x hx g hg => by rw [(hnil x hx).1] at hg; cases hg
  refine ⟨own_bkt h0 n1 n2 n3 h1 h2 h3 (off_uses hU n1.2) (off_uses hU n2.2) (off_uses hU n3.2), ⟨n1.2, n2.2, n3.2, .nil, by simp, fun g ⟨a, h1, _⟩ => (by cases h1), by simp⟩, rfl, by simp, fun x hx => ?_, fun x hx g hg => absurd hg (hno x hx g), ?_⟩
  · obtain ⟨h1, h2, h3⟩ := hnil x hx
    rw [h1, h2, h3]
    exact World.ownsRow_nil ..
  · have : ∀ l : List Vec, (∀ x ∈ l, ∀ g, x.v.ownBlock ≠ some g) → l.Pairwise (fun x y => ∀ g, x.v.ownBlock = some g → y.v.ownBlock ≠ some g) := fun l hl => by
      induction l with
      | nil => exact .nil
      | cons a r ih => exact List.pairwise_cons.2 ⟨fun y _ g hg => absurd hg (hl a (List.mem_cons_self ..) g), ih fun x hx => hl x (List.mem_cons_of_mem _ hx)⟩
    exact this _ hno
theorem Beg.met (h : Beg W b c ws us ps sp n cp vo e u w) (hU : UsesAt W) {l : List (Nat × Nat × Value)} (hl : Sy.Looks w l) (ho : ∀ g, W.heap.size ≤ g → Off g (bktL b c ws e u 0 usesC) → Off g l) : ({ loose := l, vecs := pVec sp n cp ps :: vo } : Mem).Met w :=
  looks_met_v hl h.vec (fun x hx g hg => by
    have hf := h.free x hx g hg
    exact ho g hf.new (off_bkt hf.b hf.c hf.ws (off_uses hU hf.new))) h.dist
theorem Beg.hC (h : Beg W b c ws us ps sp n cp vo e u w) : ∀ q ∈ ps, ∀ i : Nat, ¬ ((∃ x ∈ ([] : List (Nat × Nat × Value)), x.1 = q ∧ x.2.1 = i) ∨ ∃ x ∈ pVec sp n cp ps :: vo, x.v.ownBlock = some q) := fun q hq i hh => by
  rcases hh with ⟨x, hx, _⟩ | ⟨x, hx, e1⟩
  · cases hx
  · exact (h.free x hx q e1).ps hq
theorem Beg.lt (h : Beg W b c ws us ps sp n cp vo e u w) : b < w.heap.size ∧ c < w.heap.size ∧ ws < w.heap.size := by
  refine ⟨looks_lt h.own.looks (x := (b, 0, .pointer (some ⟨c, 0, none⟩))) ?_, looks_lt h.own.looks (x := (c, 0, .slice (some ⟨ws, 0, none⟩) 1 1)) ?_, looks_lt h.own.looks (x := (ws, 0, .int .u64 0)) ?_⟩ <;> simp [bktL]
theorem Beg.push (h : Beg W b c ws us ps sp n cp vo e u w) {l : List (Nat × Nat × Value)} {left : Sy.Left} (hl : Sy.Looks w l)
    (hp : ({ loose := l, vecs := pVec sp n cp ps :: vo } : Mem).Post w left w') (hk : Kept l left.loose []) (hs : (bktL b c ws e u 0 usesC).Sublist left.loose) {k a m : Int} {p gp cp' t : Nat} {vo' : List Vec} (hr : Tk.right k a m = true)
    (hv : left.vecs = ⟨40, 1, .slice (some ⟨gp, 0, none⟩) (addV n 1) cp', addV n 1, (ps.flatMap fun p => [ptrV p]) ++ [ptrV p]⟩ :: vo') (hn : left.news = [(p, t, pRow b { kind := k, at_ := a, n := m })]) :
    Beg W b c ws (us ++ [{ kind := k, at_ := a, n := m }]) (ps ++ [p]) (some ⟨gp, 0, none⟩) (n + 1) cp' vo' e u w' := by
  have hsub := post_sub_v hl hp hk
  obtain ⟨n1, m1⟩ := hp.news _ (by rw [hn]; exact List.mem_cons_self ..)
  have own' := h.own.stepV hl hp hk st_nil (fun x hx g hg => (h.free x hx g hg).new) hs h.own.far
  obtain ⟨lb, lc, lws⟩ := h.lt
  have blk : ∀ x ∈ left.vecs, ∀ g, x.v.ownBlock = some g → Free W b c ws (ps ++ [p]) g := fun x hx g hg => by
    have hne : g ≠ p := fun e1 => by
      have := hp.vnews x hx g hg
      rw [hn] at this
      simp at this
      exact this e1
    rcases hp.vold x hx g hg with ⟨y, hy, hy'⟩ | hge
    · have q := h.free y hy g hy'
      exact ⟨q.new, by simp [q.ps, hne], q.b, q.c, q.ws⟩
    · have := h.own.size
      refine ⟨by omega, ?_, by omega, by omega, by omega⟩
      simp only [List.mem_append, List.mem_singleton, not_or]
      exact ⟨fun hm => by have := (h.lay.objs.new g hm).2; omega, hne⟩
  have vs := hp.vecs
  have vd := hp.vdist
  rw [hv] at vd blk vs
  have ev : (⟨40, 1, .slice (some ⟨gp, 0, none⟩) (addV n 1) cp', addV n 1, (ps.flatMap fun p => [ptrV p]) ++ [ptrV p]⟩ : Vec) = pVec (some ⟨gp, 0, none⟩) (n + 1) cp' (ps ++ [p]) := by
    simp only [pVec, addV_eq, List.flatMap_append, List.flatMap_cons, List.flatMap_nil, List.append_nil]
  rw [ev] at vs vd blk
  refine ⟨own', ⟨h.lay.hb, h.lay.hc, h.lay.hws, h.lay.objs.push hsub h.hC n1 m1 h.own.size, fun q hq => ?_, fun g ⟨a0, e1, e2⟩ => ?_, fun x hx => ?_⟩, by simp [h.len], fun x hx => ?_, vs, blk, vd⟩
  · rcases List.mem_append.1 hq with hq | hq
    · exact h.lay.pb q hq
    · simp only [List.mem_singleton] at hq
      rw [hq]
      exact ⟨by omega, by omega, by omega⟩
  · cases e1; cases e2
    exact blk _ (List.mem_cons_self ..) gp rfl
  · rcases List.mem_append.1 hx with hx | hx
    · exact h.lay.good x hx
    · simp only [List.mem_singleton] at hx
      rw [hx]
      exact ⟨Tk.good_new hr, fun hh => by cases hh⟩
  · rcases List.mem_append.1 hx with hx | hx
    · exact h.fresh x hx
    · simp only [List.mem_singleton] at hx
      rw [hx]
theorem Beg.same (h : Beg W b c ws us ps sp n cp vo e u w) {l : List (Nat × Nat × Value)} {left : Sy.Left} (hl : Sy.Looks w l)
    (hp : ({ loose := l, vecs := pVec sp n cp ps :: vo } : Mem).Post w left w') (hk : Kept l left.loose []) (hs : (bktL b c ws e u 0 usesC).Sublist left.loose) (hv : left.vecs = pVec sp n cp ps :: vo) : Beg W b c ws us ps sp n cp vo e u w' :=
  ⟨h.own.stepV hl hp hk st_nil (fun x hx g hg => (h.free x hx g hg).new) hs h.own.far, h.lay.stay (post_sub_v hl hp hk) h.hC, h.len, h.fresh, fun x hx => hp.vecs x (by rw [hv]; exact hx), h.free, h.dist⟩
end

/-- Operations under way. -/
structure Pend (W : World) (b c ws : Nat) (us : List Tk.TU) (ps : List Nat) (sp : Option Addr) (n : Nat) (e u t : Int) (w : World) : Prop where
  own : Own W (bktL b c ws e u t usesC) w
  lay : Lay W b c ws us ps sp e u w
  len : n = us.length
  ap : Arr w 1 (fun p => [ptrV p]) sp ps
  inT : Tk.inT t = true
section
variable {W w w' : World} {b c ws : Nat} {us : List Tk.TU} {ps : List Nat} {sp : Option Addr} {n cp : Nat} {vo : List Vec} {e u t t' : Int}
theorem Beg.next (h : Beg W b c ws us ps sp n cp vo e u w) : Pend W b c ws us ps sp n e u 0 w :=
  ⟨h.own, h.lay, h.len, arr_of_owns (h.vec _ (List.mem_cons_self ..)) (by rw [h.lay.objs.len]; exact h.len) rfl (by simp), rfl⟩
theorem bkt_lt (h : Sy.Looks w (bktL b c ws e u t usesC)) : b < w.heap.size ∧ c < w.heap.size ∧ ws < w.heap.size := by
  refine ⟨looks_lt h (x := (b, 0, .pointer (some ⟨c, 0, none⟩))) ?_, looks_lt h (x := (c, 0, .slice (some ⟨ws, 0, none⟩) 1 1)) ?_, looks_lt h (x := (ws, 0, .int .u64 t)) ?_⟩ <;> simp [bktL]
theorem bkt_cell {x : Nat × Nat × Value} (hx : x ∈ bktL b c ws e u t usesC) : x.1 = b ∨ x.1 = c ∨ x.1 = ws ∨ x.1 = 0 := by
  simp only [bktL, List.mem_cons] at hx
  rcases hx with rfl | rfl | rfl | rfl | rfl | hx
  · exact .inr (.inr (.inl rfl))
  · exact .inr (.inl rfl)
  · exact .inl rfl
  · exact .inl rfl
  · exact .inl rfl
  · exact .inr (.inr (.inr (blockUses x hx)))
theorem Pend.stay {C : Nat → Nat → Prop} (h : Pend W b c ws us ps sp n e u t w) (hU : UsesAt W) (hs : Sub C w w') (hC : ∀ g i, C g i → Free W b c ws ps g ∧ ¬ At sp g) : Pend W b c ws us ps sp n e u t w' := by
  refine ⟨⟨⟨fun x hx => sub_cell hs (h.own.looks.cell x hx) (fun hc => ?_), h.own.looks.apart⟩, h.own.old.next hs (fun g i hc => (hC g i hc).1.new), h.own.far⟩, h.lay.stay hs (fun p hp i hc => (hC p i hc).1.ps hp), h.len, h.ap.stay hs (fun g hg i hc => (hC g i hc).2 hg), h.inT⟩
  have hf := (hC _ _ hc).1
  rcases bkt_cell hx with e1 | e1 | e1 | e1
  · exact hf.b e1.symm
  · exact hf.c e1.symm
  · exact hf.ws e1.symm
  · have := hf.new
    have := uses_lt hU
    omega
theorem Pend.stepped {C : Nat → Nat → Prop} (h : Pend W b c ws us ps sp n e u t w) {k p : Nat} {x' : Tk.TU} (hpk : ps[k]? = some p) (hs : Sub C w w') (hC : ∀ g i, C g i → g = p ∨ g = ws ∨ (Free W b c ws ps g ∧ ¬ At sp g))
    (hrow : Sy.Looks w' (blkL p (pRow b x') 0 (bktL b c ws e u t' usesC))) (hin : Tk.inT t' = true) (hg : Tk.Good x' ∧ Tk.Room e u x') : Pend W b c ws (us.set k x') ps sp n e u t' w' := by
  have hpm := List.mem_of_getElem? hpk
  have hnew : ∀ g i, C g i → W.heap.size ≤ g := fun g i hc => by
    rcases hC g i hc with rfl | rfl | hf
    · exact (h.lay.objs.new _ hpm).1
    · exact h.lay.hws
    · exact hf.1.new
  refine ⟨⟨looks_sub hrow blkL_sub, h.own.old.next hs hnew, far_bkt h.lay.hb h.lay.hc h.lay.hws far_uses⟩, ⟨h.lay.hb, h.lay.hc, h.lay.hws, h.lay.objs.set hs hpk (fun q hq hne i hc => ?_) (looks_row hrow), h.lay.pb, h.lay.bp, fun y hy => ?_⟩, by simpa using h.len, h.ap.stay hs (fun g hg i hc => ?_), hin⟩
  · rcases hC q i hc with e1 | e1 | hf
    · exact hne e1
    · exact (h.lay.pb q hq).2.2 e1.symm
    · exact hf.1.ps hq
  · rcases List.mem_or_eq_of_mem_set hy with hy | rfl
    · exact h.lay.good y hy
    · exact hg
  · have hb := h.lay.bp g hg
    rcases hC g i hc with e1 | e1 | hf
    · exact hb.ps (e1 ▸ hpm)
    · exact hb.ws e1.symm
    · exact hf.2 hg
/-- What a round looks at, of an operation. -/
theorem Pend.looks (h : Pend W b c ws us ps sp n e u t w) (hU : UsesAt W) {k p gp : Nat} {x : Tk.TU} (hx : us[k]? = some x) (hpk : ps[k]? = some p) (hsp : sp = some ⟨gp, 0, none⟩) : Own W ((gp, smul k 1, ptrV p) :: blkL p (pRow b x) 0 (bktL b c ws e u t usesC)) w := by
  have bgp := h.lay.bp gp ⟨_, hsp, rfl⟩
  have hpm := List.mem_of_getElem? hpk
  have hpW := (h.lay.objs.new p hpm).1
  have hpb := h.lay.pb p hpm
  have l1 := h.lay.objs.looks hx hpk h.own.looks (off_bkt hpb.1 hpb.2.1 hpb.2.2 (off_uses hU hpW))
  have o3 : Off gp (blkL p (pRow b x) 0 (bktL b c ws e u t usesC)) := off_blkL (fun e1 => bgp.ps (by rw [← e1]; exact hpm)) (off_bkt bgp.b bgp.c bgp.ws (off_uses hU bgp.new))
  exact ⟨h.ap.looks hpk hsp l1 o3, h.own.old, far_cons bgp.new (far_blkL hpW (far_bkt h.lay.hb h.lay.hc h.lay.hws far_uses))⟩
/-- A block that is free of all that a round looks at. -/
theorem Pend.off (h : Pend W b c ws us ps sp n e u t w) (hU : UsesAt W) {k p gp g : Nat} {x : Tk.TU} (hpk : ps[k]? = some p) (hsp : sp = some ⟨gp, 0, none⟩) (hf : Free W b c ws ps g) (hg : ¬ At sp g) : Off g ((gp, smul k 1, ptrV p) :: blkL p (pRow b x) 0 (bktL b c ws e u t usesC)) :=
  off_cons (fun e1 => hg ⟨_, hsp, e1⟩) (off_blkL (fun e1 => hf.ps (by rw [← e1]; exact List.mem_of_getElem? hpk)) (off_bkt hf.b hf.c hf.ws (off_uses hU hf.new)))
end
end Go.Proofs.YthglajoihlaldaaDoor.tokl
