/- What the statements over token buckets share. -/
import Derived.Test.YthglajoihlaldaaDoorLaw
import Derived.Test.YthglajoihlaldaaDoorRef6
namespace Go.Proofs.YthglajoihlaldaaDoor.tok
open Go Sy Close
set_option maxRecDepth 100000
/-- An operation that was handed in. -/
structure TOp where
  k : Int
  a : Int
  n : Int
def TOp.row (x : TOp) : List Value := [.int .u8 x.k, .int .i64 x.a, .int .i64 x.n]
theorem op_rows {H : Type} {enc : TypeId × Value → H} {W : World} : ∀ n cs (x : DataW H × List MemPlace), cs.length = 3 → DataW.trod enc Tryd.prog W 0 (fun _ => true) true n 34 cs = some x → ∃ y : TOp, cs = y.row := by
  intro n cs x hl h
  obtain ⟨k, h0⟩ := int_cell h 0 0 .u8 (by kernel_rfl)
  obtain ⟨a, h1⟩ := int_cell h 1 1 .i64 (by kernel_rfl)
  obtain ⟨b, h2⟩ := int_cell h 2 2 .i64 (by kernel_rfl)
  match cs, hl with
  | [c0, c1, c2], _ =>
    simp only [List.getElem?_cons_zero, List.getElem?_cons_succ, Option.some.injEq] at h0 h1 h2
    exact ⟨⟨k, a, b⟩, by rw [h0, h1, h2]; rfl⟩
theorem bLoose_far {W : World} {b c ws : Nat} {m cap : Nat} {e u t : Int} (h1 : W.heap.size ≤ b) (h2 : W.heap.size ≤ c) (h3 : W.heap.size ≤ ws) : ∀ x ∈ bLoose b c ws m cap e u t, W.heap.size ≤ x.1 ∨ ∃ z, x.2.2 = .bool z := by
  intro x hx
  simp only [bLoose, List.mem_cons] at hx
  rcases hx with rfl | rfl | rfl | rfl | rfl | hx
  · exact .inl h3
  · exact .inl h2
  · exact .inl h1
  · exact .inl h1
  · exact .inl h1
  · right
    simp only [bools, usesL, List.mem_cons, List.not_mem_nil, or_false] at hx
    rcases hx with rfl | rfl | rfl | rfl | rfl | rfl | rfl | rfl | rfl | rfl | rfl | rfl <;> exact ⟨_, rfl⟩
theorem far_cell {W w : World} {ab o : Nat} {v : Value} {l : List (Nat × Nat × Value)} (hb : ab < W.heap.size) (hc : w.cell? ⟨ab, o, none⟩ = some v) (hl : Sy.Looks w l) (hs : ∀ x ∈ l, W.heap.size ≤ x.1 ∨ x.2.2 ≠ v) : ∀ x ∈ l, ¬ (ab = x.1 ∧ o = x.2.1) := fun x hx ⟨h1, h2⟩ => by
  rcases hs x hx with h | h
  · omega
  · have := (hl.cell x hx).1
    rw [← h1, ← h2, hc] at this
    exact h (Option.some.inj this).symm
theorem el_eq (ao i s j : Nat) : sadd ao (smul i s) + j = ao + i * s + j := by rw [sadd_eq, smul_eq]

theorem uses_looks {W : World} (hU : ∀ j v, usesList[j]? = some v → W.cell? ⟨0, j, none⟩ = some v ∧ W.frozen? ⟨0, j, none⟩ = false) : Sy.Looks W usesC := by
  refine ⟨fun x hx => ?_, by decide⟩
  simp only [usesC, bools, usesL, List.mem_cons, List.not_mem_nil, or_false] at hx
  rcases hx with rfl | rfl | rfl | rfl | rfl | rfl | rfl | rfl | rfl | rfl | rfl | rfl <;> exact hU _ _ rfl
theorem uses_block : ∀ x ∈ usesC, x.1 = 0 := by
  intro x hx
  simp only [usesC, bools, usesL, List.mem_cons, List.not_mem_nil, or_false] at hx
  rcases hx with rfl | rfl | rfl | rfl | rfl | rfl | rfl | rfl | rfl | rfl | rfl | rfl <;> rfl
theorem bLoose_eq (b c ws : Nat) (e u t : Int) : bLoose b c ws 1 1 e u t = blkL ws [.int .u64 t] 0 (blkL c [.slice (some ⟨ws, 0, none⟩) 1 1] 0 (blkL b [.pointer (some ⟨c, 0, none⟩), .int .i64 e, .int .i64 u] 0 usesC)) := rfl
/-- A bucket of the call's own; what was there is as it was. -/
structure BInv (W : World) (b c ws : Nat) (e u t : Int) (w : World) : Prop where
  looks : Sy.Looks w (bLoose b c ws 1 1 e u t)
  old : Old W w
  hb : W.heap.size ≤ b
  hc : W.heap.size ≤ c
  hws : W.heap.size ≤ ws
  inT : Tk.inT t = true


/-- A new bucket. -/
theorem binv_new {W w : World} {b c ws : Nat} {e u : Int} (hU : ∀ j v, usesList[j]? = some v → W.cell? ⟨0, j, none⟩ = some v ∧ W.frozen? ⟨0, j, none⟩ = false) (hO : Old W w) (hL : Sy.Looks w usesC)
    {t1 t2 t3 : Nat} (n1 : Blk w b t1 [.pointer (some ⟨c, 0, none⟩), .int .i64 e, .int .i64 u] ∧ W.heap.size ≤ b) (n2 : Blk w c t2 [.slice (some ⟨ws, 0, none⟩) 1 1] ∧ W.heap.size ≤ c) (n3 : Blk w ws t3 [.int .u64 0] ∧ W.heap.size ≤ ws)
    (h1 : b ≠ c) (h2 : b ≠ ws) (h3 : c ≠ ws) : BInv W b c ws e u 0 w := by
  have hg : 0 < W.heap.size := lt_of_cell? (hU 0 _ rfl).1
  refine ⟨?_, hO, n1.2, n2.2, n3.2, rfl⟩
  rw [bLoose_eq]
  refine looks_blk (looks_blk (looks_blk hL n1.1 (fun x hx => by rw [uses_block x hx]; have := n1.2; omega)) n2.1 (fun x hx => ?_)) n3.1 (fun x hx => ?_)
  · simp only [blkL, List.mem_cons] at hx
    rcases hx with rfl | rfl | rfl | hx
    · exact h1
    · exact h1
    · exact h1
    · rw [uses_block x hx]; have := n2.2; omega
  · simp only [blkL, List.mem_cons] at hx
    rcases hx with rfl | rfl | rfl | rfl | hx
    · exact h3
    · exact h2
    · exact h2
    · exact h2
    · rw [uses_block x hx]; have := n3.2; omega
theorem uses_stay {W w : World} (h : Old W w) (hU : ∀ j v, usesList[j]? = some v → W.cell? ⟨0, j, none⟩ = some v ∧ W.frozen? ⟨0, j, none⟩ = false) : ∀ j v, usesList[j]? = some v → w.cell? ⟨0, j, none⟩ = some v ∧ w.frozen? ⟨0, j, none⟩ = false := fun j v hv => by
  obtain ⟨h1, h2⟩ := hU j v hv
  have := h.block _ (lt_of_cell? h1)
  exact ⟨by simpa only [World.cell?, this] using h1, by simpa only [World.frozen?, this] using h2⟩
abbrev Done (W : World) : Ending → World → Prop := fun e w => e = .returned (.bool true) ∧ Old W w
/-- The word goes on. -/
theorem BInv.next {W w w' : World} {b c ws : Nat} {e u t t' : Int} {l : List (Nat × Nat × Value)} {left : Sy.Left} (h : BInv W b c ws e u t w) (hl : Sy.Looks w l) (hp : ({ loose := l } : Mem).Post w left w') {tv : Value} (hk : Kept l left.loose [(ws, 0, tv)]) (hs : (bLoose b c ws 1 1 e u t').Sublist left.loose) (ht : Tk.inT t' = true) : BInv W b c ws e u t' w' :=
  ⟨looks_sub (post_looks hl hp hk) hs, h.old.next (post_sub hl hp hk) (fun k i ⟨x, hx, e1, _⟩ => by simp only [List.mem_singleton] at hx; rw [← e1, hx]; exact h.hws), h.hb, h.hc, h.hws, ht⟩
theorem BInv.same {W w w' : World} {b c ws : Nat} {e u t : Int} {l : List (Nat × Nat × Value)} {left : Sy.Left} (h : BInv W b c ws e u t w) (hl : Sy.Looks w l) (hp : ({ loose := l } : Mem).Post w left w') (hk : Kept l left.loose []) (hs : (bLoose b c ws 1 1 e u t).Sublist left.loose) : BInv W b c ws e u t w' :=
  ⟨looks_sub (post_looks hl hp hk) hs, h.old.next (post_sub hl hp hk) (fun k i ⟨x, hx, e1, _⟩ => by cases hx), h.hb, h.hc, h.hws, h.inT⟩
/-- An operation that was handed in, beside a bucket. -/
theorem op_looks {W w : World} {b c ws : Nat} {e u t : Int} {ab ao i : Nat} {y : TOp} (h : BInv W b c ws e u t w) (he : Elem W (some ⟨ab, ao, none⟩) 3 i y.row) :
    Sy.Looks w ((ab, sadd ao (smul i 3), .int .u8 y.k) :: (ab, sadd ao (smul i 3) + 1, .int .i64 y.a) :: (ab, sadd ao (smul i 3) + 2, .int .i64 y.n) :: bLoose b c ws 1 1 e u t) := by
  have he1 := he
  obtain ⟨ab', ao', e1, hab, _⟩ := he1
  simp only [Option.some.injEq, Addr.mk.injEq, and_true] at e1
  obtain ⟨rfl, rfl⟩ := e1
  obtain ⟨ab', ao', e1, _, hcell⟩ := h.old.elem he
  simp only [Option.some.injEq, Addr.mk.injEq, and_true] at e1
  obtain ⟨rfl, rfl⟩ := e1
  have c0 := hcell 0 _ rfl
  have c1 := hcell 1 _ rfl
  have c2 := hcell 2 _ rfl
  have hfar := bLoose_far (m := 1) (cap := 1) (e := e) (u := u) (t := t) h.hb h.hc h.hws
  have e0 : sadd ao (smul i 3) = ao + i * 3 + 0 := by rw [sadd_eq, smul_eq]; rfl
  simp only [el_eq]
  rw [e0]
  have f : ∀ {o : Nat} {kd : IntKind} {z : Int}, w.cell? ⟨ab, o, none⟩ = some (.int kd z) → ∀ x ∈ bLoose b c ws 1 1 e u t, ¬ (ab = x.1 ∧ o = x.2.1) := fun hc =>
    far_cell hab hc h.looks fun x hx => (hfar x hx).imp id fun ⟨z, hz⟩ => by rw [hz]; simp
  refine looks_add (looks_add (looks_add h.looks c2 (f c2.1)) c1 (fun x hx => ?_)) c0 (fun x hx => ?_)
  · rcases List.mem_cons.1 hx with rfl | hx
    · simp only; omega
    · exact f c1.1 x hx
  · rcases List.mem_cons.1 hx with rfl | hx
    · simp only; omega
    · rcases List.mem_cons.1 hx with rfl | hx
      · simp only; omega
      · exact f c0.1 x hx
end Go.Proofs.YthglajoihlaldaaDoor.tok
