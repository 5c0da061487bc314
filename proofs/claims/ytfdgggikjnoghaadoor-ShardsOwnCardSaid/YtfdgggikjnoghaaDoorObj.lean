/- Memory of a walk's own, without bound: objects in blocks of their own; slices of the call's own, element by element. -/
import Derived.Test.YtfdgggikjnoghaaDoorOwn
namespace Go.Proofs.YtfdgggikjnoghaaDoor.Close
open Go Sy
set_option maxRecDepth 100000

theorem sub_cell {C : Nat → Nat → Prop} {w w' : World} (hs : Sub C w w') {b o : Nat} {v : Value} (h : w.cell? ⟨b, o, none⟩ = some v ∧ w.frozen? ⟨b, o, none⟩ = false) (hn : ¬ C b o) : w'.cell? ⟨b, o, none⟩ = some v ∧ w'.frozen? ⟨b, o, none⟩ = false :=
  ⟨hs.cell h.1 hn, by rw [hs.frozen (lt_of_cell? h.1)]; exact h.2⟩

/-! ### A walk's memory with slices of its own -/
theorem looks_met_v {w : World} {l : List (Nat × Nat × Value)} {vs : List Vec} (h : Sy.Looks w l) (hv : ∀ x ∈ vs, w.ownsRow 0 x.e x.size x.v x.n x.xs) (hsep : ∀ x ∈ vs, ∀ g, x.v.ownBlock = some g → Off g l) (hd : vs.Pairwise (fun x y => ∀ g, x.v.ownBlock = some g → y.v.ownBlock ≠ some g)) :
    ({ loose := l, vecs := vs } : Mem).Met w :=
  ⟨by simp, by simp, h.cell, h.apart, by simp, by simp, hv, fun x hx g hg => ⟨by simp, hsep x hx g hg, by simp⟩, hd, by simp⟩
theorem post_looks_v {w w' : World} {l st : List (Nat × Nat × Value)} {vs : List Vec} {left : Sy.Left} (hl : Sy.Looks w l) (hp : ({ loose := l, vecs := vs } : Mem).Post w left w') (hk : Kept l left.loose st) : Sy.Looks w' left.loose :=
  ⟨hp.loose, by rw [apart_iff, kept_addr hk, ← apart_iff]; exact hl.apart⟩
theorem post_sub_v {w w' : World} {l st : List (Nat × Nat × Value)} {vs : List Vec} {left : Sy.Left} (hl : Sy.Looks w l) (hp : ({ loose := l, vecs := vs } : Mem).Post w left w') (hk : Kept l left.loose st) :
    Sub (fun k i => (∃ x ∈ st, x.1 = k ∧ x.2.1 = i) ∨ ∃ x ∈ vs, x.v.ownBlock = some k) w w' :=
  hp.sub.less fun k i hc _ => by
    rcases hc with ⟨c, hm, rfl, rfl⟩ | ⟨x, hx, e⟩
    · rcases mem_cellsOf hm with ⟨x, hx, _⟩ | hm
      · cases hx
      · obtain ⟨y, hy, rfl⟩ := mem_looseCells hm
        rcases hk.old y hy with ⟨x, hx, e1, e2⟩ | hy'
        · exact .inl (.inl ⟨x, hx, e1, e2⟩)
        · exact .inr ((hp.loose y hy').1.trans (hl.cell y hy).1.symm)
    · exact .inl (.inr ⟨x, hx, e⟩)
theorem Own.stepV {W w w' : World} {L L' l st : List (Nat × Nat × Value)} {vs : List Vec} {left : Sy.Left} (h : Own W L w) (hl : Sy.Looks w l) (hp : ({ loose := l, vecs := vs } : Mem).Post w left w') (hk : Kept l left.loose st) (hst : ∀ x ∈ st, W.heap.size ≤ x.1)
    (hvs : ∀ x ∈ vs, ∀ g, x.v.ownBlock = some g → W.heap.size ≤ g) (hs : L'.Sublist left.loose) (hf : Far W L') : Own W L' w' :=
  ⟨looks_sub (post_looks_v hl hp hk) hs, h.old.next (post_sub_v hl hp hk) (fun k i hc => by
    rcases hc with ⟨x, hx, e1, _⟩ | ⟨x, hx, e⟩
    · rw [← e1]; exact hst x hx
    · exact hvs x hx k e), hf⟩
/-- A walk that looks at nothing. -/
theorem Own.stepN {W w w' : World} {L : List (Nat × Nat × Value)} {left : Sy.Left} (h : Own W L w) (hp : ({} : Mem).Post w left w') : Own W L w' := by
  have hs : Sub (fun _ _ => False) w w' := hp.sub.less fun k i hc _ => by
    rcases hc with ⟨c, hm, _⟩ | ⟨x, hx, _⟩
    · cases hm
    · cases hx
  exact ⟨⟨fun x hx => sub_cell hs (h.looks.cell x hx) id, h.looks.apart⟩, h.old.next hs (fun _ _ hh => hh.elim), h.far⟩

/-! ### Objects -/
structure Objs {U : Type} (W w : World) (row : U → List Value) (us : List U) (ps : List Nat) : Prop where
  len : ps.length = us.length
  cell : ∀ (i : Nat) u p, us[i]? = some u → ps[i]? = some p → ∀ j v, (row u)[j]? = some v → w.cell? ⟨p, j, none⟩ = some v ∧ w.frozen? ⟨p, j, none⟩ = false
  new : ∀ p ∈ ps, W.heap.size ≤ p ∧ p < w.heap.size
  nodup : ps.Nodup
section
variable {U : Type} {W w w' : World} {row : U → List Value} {us : List U} {ps : List Nat}
theorem Objs.nil : Objs W w row [] [] := ⟨rfl, by simp, by simp, List.nodup_nil⟩
theorem Objs.stay {C : Nat → Nat → Prop} (h : Objs W w row us ps) (hs : Sub C w w') (hC : ∀ p ∈ ps, ∀ i, ¬ C p i) : Objs W w' row us ps :=
  ⟨h.len, fun i u p hu hp j v hv => sub_cell hs (h.cell i u p hu hp j v hv) (hC p (List.mem_of_getElem? hp) j), fun p hp => ⟨(h.new p hp).1, Nat.lt_of_lt_of_le (h.new p hp).2 hs.size⟩, h.nodup⟩
theorem Objs.set {C : Nat → Nat → Prop} (h : Objs W w row us ps) (hs : Sub C w w') {k pk : Nat} (hk : ps[k]? = some pk) (hC : ∀ p ∈ ps, p ≠ pk → ∀ i, ¬ C p i) {u' : U} (hu : ∀ j v, (row u')[j]? = some v → w'.cell? ⟨pk, j, none⟩ = some v ∧ w'.frozen? ⟨pk, j, none⟩ = false) :
    Objs W w' row (us.set k u') ps := by
  refine ⟨by simpa using h.len, fun i u p hi hp j v hv => ?_, fun p hp => ⟨(h.new p hp).1, Nat.lt_of_lt_of_le (h.new p hp).2 hs.size⟩, h.nodup⟩
  by_cases e : i = k
  · subst e
    rw [hk] at hp
    cases hp
    have hlt : i < us.length := by rw [← h.len]; exact (List.getElem?_eq_some_iff.1 hk).1
    rw [List.getElem?_set_self hlt] at hi
    cases hi
    exact hu j v hv
  · rw [List.getElem?_set_ne (fun hh => e hh.symm)] at hi
    refine sub_cell hs (h.cell i u p hi hp j v hv) (hC p (List.mem_of_getElem? hp) (fun hh => e ?_) j)
    exact nodup_at h.nodup (hh ▸ hp) hk
theorem Objs.push {C : Nat → Nat → Prop} (h : Objs W w row us ps) (hs : Sub C w w') (hC : ∀ p ∈ ps, ∀ i, ¬ C p i) {u : U} {p t : Nat} (hb : Blk w' p t (row u)) (hp : w.heap.size ≤ p) (hW : W.heap.size ≤ w.heap.size) : Objs W w' row (us ++ [u]) (ps ++ [p]) := by
  have h' := h.stay hs hC
  refine ⟨by simp [h.len], fun i u1 p1 hi hp1 j v hv => ?_, fun q hq => ?_, ?_⟩
  · by_cases e : i < us.length
    · rw [List.getElem?_append_left e] at hi
      rw [List.getElem?_append_left (by rw [h.len]; exact e)] at hp1
      exact h'.cell i u1 p1 hi hp1 j v hv
    · rw [List.getElem?_append_right (by omega)] at hi
      rw [List.getElem?_append_right (by rw [h.len]; omega)] at hp1
      have e0 : i - us.length = 0 := by
        have := (List.getElem?_eq_some_iff.1 hi).1
        simp at this
        omega
      rw [e0] at hi
      rw [h.len, e0] at hp1
      simp only [List.getElem?_cons_zero, Option.some.injEq] at hi hp1
      subst hi hp1
      exact hb.2 j v hv
  · rcases List.mem_append.1 hq with hq | hq
    · exact h'.new q hq
    · simp only [List.mem_singleton] at hq
      rw [hq]
      exact ⟨Nat.le_trans hW hp, lt_of_shape hb.1⟩
  · refine List.nodup_append.2 ⟨h.nodup, by simp, fun a ha b hb' => ?_⟩
    simp only [List.mem_singleton] at hb'
    rw [hb']
    have := (h.new a ha).2
    omega
theorem Objs.looks (h : Objs W w row us ps) {k p : Nat} {u : U} (hu : us[k]? = some u) (hp : ps[k]? = some p) {l : List (Nat × Nat × Value)} (hl : Sy.Looks w l) (ho : Off p l) : Sy.Looks w (blkL p (row u) 0 l) :=
  looks_blkL (h.cell k u p hu hp) (row u) 0 l (fun i v h => by simpa using h) hl (fun x hx => .inl (ho x hx))
end

/-! ### Slices of the call's own, element by element -/
/-- The block of a slice. -/
def At (su : Option Addr) (g : Nat) : Prop := ∃ a, su = some a ∧ a.block = g
def Arr {U : Type} (w : World) (s : Nat) (row : U → List Value) (su : Option Addr) (us : List U) : Prop :=
  ∀ (i : Nat) u, us[i]? = some u → ∃ g, su = some ⟨g, 0, none⟩ ∧ ∀ j v, (row u)[j]? = some v → w.cell? ⟨g, i * s + j, none⟩ = some v ∧ w.frozen? ⟨g, i * s + j, none⟩ = false
/-- An element's cells. -/
def arrL (g s i : Nat) : List Value → Nat → List (Nat × Nat × Value) → List (Nat × Nat × Value)
  | [], _, l => l
  | v :: r, j, l => (g, smul i s + j, v) :: arrL g s i r (j + 1) l
section
variable {U : Type} {w w' : World} {s : Nat} {row : U → List Value} {su : Option Addr} {us : List U}
theorem flat_get : ∀ {us : List U} {i j : Nat} {u : U} {v : Value}, (∀ u ∈ us, (row u).length = s) → us[i]? = some u → (row u)[j]? = some v → (us.flatMap row)[i * s + j]? = some v ∧ i * s + j < us.length * s
  | a :: r, 0, j, u, v, hr, hu, hv => by
    simp only [List.getElem?_cons_zero, Option.some.injEq] at hu
    subst hu
    have hj := (List.getElem?_eq_some_iff.1 hv).1
    have ha := hr a (List.mem_cons_self ..)
    simp only [List.flatMap_cons, Nat.zero_mul, Nat.zero_add, List.length_cons, Nat.succ_mul]
    exact ⟨by rw [List.getElem?_append_left hj]; exact hv, by omega⟩
  | a :: r, i + 1, j, u, v, hr, hu, hv => by
    simp only [List.getElem?_cons_succ] at hu
    have ha := hr a (List.mem_cons_self ..)
    obtain ⟨h1, h2⟩ := flat_get (us := r) (fun u hm => hr u (List.mem_cons_of_mem _ hm)) hu hv
    simp only [List.flatMap_cons, List.length_cons, Nat.succ_mul]
    exact ⟨by rw [List.getElem?_append_right (by omega), ← h1]; congr 1; omega, by omega⟩
theorem arr_of_owns {e n c : Nat} {xs : List Value} (h : w.ownsRow 0 e s (.slice su n c) n xs) (hn : n = us.length) (hx : xs = us.flatMap row) (hr : ∀ u ∈ us, (row u).length = s) : Arr w s row su us := by
  intro i u hu
  have hlt := (List.getElem?_eq_some_iff.1 hu).1
  rcases h.2 with ⟨_, h2⟩ | ⟨g, cap, cur, h1, _, h3, h4, _, h5, h6⟩
  · omega
  · simp only [Value.slice.injEq] at h1
    obtain ⟨rfl, _, rfl⟩ := h1
    refine ⟨g, rfl, fun j v hv => ?_⟩
    obtain ⟨q1, q2⟩ := flat_get hr hu hv
    rw [← hx, ← h6] at q1
    rw [← hn] at q2
    rw [List.getElem?_take_of_lt q2] at q1
    refine ⟨?_, ?_⟩
    · simp only [World.cell?, h3, Option.isSome_none, Bool.false_eq_true, if_false]
      simpa using q1
    · simp [World.frozen?, h3]
theorem Arr.stay {C : Nat → Nat → Prop} (h : Arr w s row su us) (hs : Sub C w w') (hC : ∀ g, At su g → ∀ i, ¬ C g i) : Arr w' s row su us := fun i u hu => by
  obtain ⟨g, rfl, hc⟩ := h i u hu
  exact ⟨g, rfl, fun j v hv => sub_cell hs (hc j v hv) (hC g ⟨_, rfl, rfl⟩ _)⟩
theorem Arr.set {C : Nat → Nat → Prop} (h : Arr w s row su us) (hs : Sub C w w') (hr : ∀ u ∈ us, (row u).length = s) {k g : Nat} (hsu : su = some ⟨g, 0, none⟩) (hC : ∀ i, C g i → k * s ≤ i ∧ i < k * s + s) {u' : U}
    (hu : ∀ j v, (row u')[j]? = some v → w'.cell? ⟨g, k * s + j, none⟩ = some v ∧ w'.frozen? ⟨g, k * s + j, none⟩ = false) : Arr w' s row su (us.set k u') := by
  intro i u hi
  by_cases e : i = k
  · subst e
    have hlt : i < us.length := by have := (List.getElem?_eq_some_iff.1 hi).1; simpa using this
    rw [List.getElem?_set_self hlt] at hi
    cases hi
    exact ⟨g, hsu, hu⟩
  · rw [List.getElem?_set_ne (fun hh => e hh.symm)] at hi
    obtain ⟨g', hg, hc⟩ := h i u hi
    rw [hsu] at hg
    simp only [Option.some.injEq, Addr.mk.injEq, and_true] at hg
    subst hg
    refine ⟨g, hsu, fun j v hv => sub_cell hs (hc j v hv) (fun hh => ?_)⟩
    obtain ⟨q1, q2⟩ := hC _ hh
    have hj := (List.getElem?_eq_some_iff.1 hv).1
    rw [hr u (List.mem_of_getElem? hi)] at hj
    rcases Nat.lt_or_gt_of_ne e with h1 | h1
    · have : (i + 1) * s ≤ k * s := Nat.mul_le_mul_right _ h1
      rw [Nat.succ_mul] at this
      omega
    · have : (k + 1) * s ≤ i * s := Nat.mul_le_mul_right _ h1
      rw [Nat.succ_mul] at this
      omega
theorem arrL_mem {g s i : Nat} : ∀ {vs : List Value} {j : Nat} {l : List (Nat × Nat × Value)} {x : Nat × Nat × Value}, x ∈ arrL g s i vs j l → (∃ k v, vs[k]? = some v ∧ x = (g, smul i s + (j + k), v)) ∨ x ∈ l
  | [], _, _, _, h => .inr h
  | v :: r, j, l, x, h => by
    rcases List.mem_cons.1 h with rfl | h
    · exact .inl ⟨0, v, rfl, rfl⟩
    · rcases arrL_mem h with ⟨k, u, h1, h2⟩ | h
      · exact .inl ⟨k + 1, u, by simpa using h1, by rw [h2]; congr 3; omega⟩
      · exact .inr h
theorem arrL_looks {g i : Nat} {l : List (Nat × Nat × Value)} (hl : Sy.Looks w l) (ho : Off g l) : ∀ {vs : List Value} {j : Nat}, (∀ k v, vs[k]? = some v → w.cell? ⟨g, i * s + (j + k), none⟩ = some v ∧ w.frozen? ⟨g, i * s + (j + k), none⟩ = false) → Sy.Looks w (arrL g s i vs j l)
  | [], _, _ => hl
  | v :: r, j, hc => by
    refine looks_add (arrL_looks hl ho (vs := r) (j := j + 1) (fun k u hu => ?_)) ?_ (fun x hx => ?_)
    · have := hc (k + 1) u (by simpa using hu)
      rw [show j + 1 + k = j + (k + 1) by omega]
      exact this
    · have := hc 0 v rfl
      rw [smul_eq]
      exact this
    · rcases arrL_mem hx with ⟨k, u, _, rfl⟩ | hx
      · simp only; omega
      · exact fun hh => ho x hx hh.1.symm
theorem Arr.looks (h : Arr w s row su us) {k g : Nat} {u : U} (hu : us[k]? = some u) (hsu : su = some ⟨g, 0, none⟩) {l : List (Nat × Nat × Value)} (hl : Sy.Looks w l) (ho : Off g l) : Sy.Looks w (arrL g s k (row u) 0 l) := by
  obtain ⟨g', hg, hc⟩ := h k u hu
  rw [hsu] at hg
  simp only [Option.some.injEq, Addr.mk.injEq, and_true] at hg
  subst hg
  exact arrL_looks hl ho (fun j v hv => by rw [Nat.zero_add]; exact hc j v hv)
theorem off_arrL {p g s i : Nat} (h : g ≠ p) : ∀ {vs : List Value} {j : Nat} {l : List (Nat × Nat × Value)}, Off p l → Off p (arrL g s i vs j l)
  | [], _, _, hl => hl
  | _ :: r, j, l, hl => off_cons h (off_arrL h (vs := r) hl)
theorem off_elemL {p ab ao s i : Nat} (h : ab ≠ p) : ∀ {ps : List (Nat × Value)} {l : List (Nat × Nat × Value)}, Off p l → Off p (elemL ab ao s i ps l)
  | [], _, hl => hl
  | _ :: r, l, hl => off_cons h (off_elemL h (ps := r) hl)
theorem far_arrL {W : World} {g s i : Nat} (h : W.heap.size ≤ g) : ∀ {vs : List Value} {j : Nat} {l : List (Nat × Nat × Value)}, Far W l → Far W (arrL g s i vs j l)
  | [], _, _, hl => hl
  | _ :: r, j, l, hl => far_cons h (far_arrL h (vs := r) hl)
theorem owns_block {W w : World} {e s n c : Nat} {xs : List Value} (h : w.ownsRow 0 e s (.slice su n c) n xs) : ∀ g, At su g → g < w.heap.size := fun g ⟨a, h1, h2⟩ => by
  subst h1 h2
  exact (h.lt a.block rfl).2
theorem owns_some {e s n c : Nat} {xs : List Value} (h : w.ownsRow 0 e s (.slice su n c) n xs) (hn : 0 < n) : ∃ g, su = some ⟨g, 0, none⟩ := by
  rcases h.2 with ⟨_, h2⟩ | ⟨g, cap, cur, h1, _⟩
  · omega
  · simp only [Value.slice.injEq] at h1
    exact ⟨g, h1.1⟩
end
theorem own_at {su : Option Addr} {n c g : Nat} (h : (Value.slice su n c).ownBlock = some g) : At su g := by
  cases su with
  | none => cases h
  | some a => exact ⟨a, rfl, by simpa [Value.ownBlock] using h⟩
theorem looks_tail {w : World} {x : Nat × Nat × Value} {l : List (Nat × Nat × Value)} (h : Sy.Looks w (x :: l)) : Sy.Looks w l := looks_sub h (List.sublist_cons_self ..)
theorem blkL_mem {b : Nat} : ∀ {vs : List Value} {j : Nat} {l : List (Nat × Nat × Value)}, (∀ i v, vs[i]? = some v → (b, j + i, v) ∈ blkL b vs j l) ∧ ∀ x ∈ l, x ∈ blkL b vs j l
  | [], _, _ => ⟨by simp, fun _ h => h⟩
  | v :: r, j, l => by
    obtain ⟨h1, h2⟩ := blkL_mem (b := b) (vs := r) (j := j + 1) (l := (b, j, v) :: l)
    refine ⟨fun i u hu => ?_, fun x hx => h2 x (List.mem_cons_of_mem _ hx)⟩
    cases i with
    | zero =>
      simp only [List.getElem?_cons_zero, Option.some.injEq] at hu
      subst hu
      exact h2 _ (List.mem_cons_self ..)
    | succ i =>
      have := h1 i u (by simpa using hu)
      rw [show j + (i + 1) = j + 1 + i by omega]
      exact this
theorem looks_row {w : World} {b : Nat} {vs : List Value} {l : List (Nat × Nat × Value)} (h : Sy.Looks w (blkL b vs 0 l)) : ∀ j v, vs[j]? = some v → w.cell? ⟨b, j, none⟩ = some v ∧ w.frozen? ⟨b, j, none⟩ = false := fun j v hv => by
  have := h.cell _ (blkL_mem.1 j v hv)
  simpa using this
theorem arrL_get {g s i : Nat} {l : List (Nat × Nat × Value)} : ∀ {vs : List Value} {j : Nat}, ∀ k v, vs[k]? = some v → (g, smul i s + (j + k), v) ∈ arrL g s i vs j l
  | x :: r, j, 0, v, h => by
    simp only [List.getElem?_cons_zero, Option.some.injEq] at h
    subst h
    exact List.mem_cons_self ..
  | x :: r, j, k + 1, v, h => by
    have := arrL_get (g := g) (s := s) (i := i) (l := l) (vs := r) (j := j + 1) k v (by simpa using h)
    rw [show j + (k + 1) = j + 1 + k by omega]
    exact List.mem_cons_of_mem _ this
theorem looks_arr {w : World} {g s i : Nat} {vs : List Value} {l : List (Nat × Nat × Value)} (h : Sy.Looks w (arrL g s i vs 0 l)) : ∀ j v, vs[j]? = some v → w.cell? ⟨g, i * s + j, none⟩ = some v ∧ w.frozen? ⟨g, i * s + j, none⟩ = false := fun j v hv => by
  have := h.cell _ (arrL_get j v hv)
  simpa [smul_eq] using this
theorem arrL_sub {g s i : Nat} {l : List (Nat × Nat × Value)} : ∀ {vs : List Value} {j : Nat}, l.Sublist (arrL g s i vs j l)
  | [], _ => .refl _
  | _ :: r, j => .cons _ (arrL_sub (vs := r))
theorem blkL_sub {b : Nat} : ∀ {vs : List Value} {j : Nat} {l : List (Nat × Nat × Value)}, l.Sublist (blkL b vs j l)
  | [], _, _ => .refl _
  | _ :: r, j, l => (List.sublist_cons_self ..).trans (blkL_sub (vs := r))
theorem looks_lt {w : World} {l : List (Nat × Nat × Value)} (h : Sy.Looks w l) {x : Nat × Nat × Value} (hx : x ∈ l) : x.1 < w.heap.size := lt_of_cell? (h.cell x hx).1
end Go.Proofs.YtfdgggikjnoghaaDoor.Close
