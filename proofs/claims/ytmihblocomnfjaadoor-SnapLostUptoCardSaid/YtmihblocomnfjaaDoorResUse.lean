/- Memory of a call's own as a resource: objects by the dozen, slices by rows, a contract's end. -/
import Derived.Test.YtmihblocomnfjaaDoorRes
set_option linter.unusedSimpArgs false
set_option linter.unusedVariables false
namespace Go.Proofs.YtmihblocomnfjaaDoor.Sy
open Go

/-! ### Objects -/
section
variable {U Q : Type} (f : U → Q → List (Nat × TypeId × List Value))
def famB : List U → List Q → List (Nat × TypeId × List Value)
  | u :: us, q :: qs => f u q ++ famB us qs
  | _, _ => []
variable {f}
theorem famB_focus : ∀ {us : List U} {qs : List Q} {k : Nat} {u : U} {q : Q}, us[k]? = some u → qs[k]? = some q → (famB f us qs).Perm (f u q ++ famB f (us.eraseIdx k) (qs.eraseIdx k))
  | a :: us, b :: qs, 0, u, q, h1, h2 => by
    simp only [List.getElem?_cons_zero, Option.some.injEq] at h1 h2
    subst h1 h2
    exact .refl _
  | a :: us, b :: qs, k + 1, u, q, h1, h2 => by
    simp only [List.getElem?_cons_succ] at h1 h2
    have := famB_focus h1 h2
    simp only [famB, List.eraseIdx_cons_succ]
    refine (this.append_left (f a b)).trans ?_
    rw [← List.append_assoc, ← List.append_assoc]
    exact List.perm_append_comm.append_right _
  | [], _, k, u, q, h1, _ => by simp at h1
  | _ :: _, [], k, u, q, _, h2 => by simp at h2
theorem famB_set {us : List U} {qs : List Q} {k : Nat} {u u' : U} {q : Q} (h1 : us[k]? = some u) (h2 : qs[k]? = some q) : (f u' q ++ famB f (us.eraseIdx k) (qs.eraseIdx k)).Perm (famB f (us.set k u') qs) := by
  have hk := (List.getElem?_eq_some_iff.1 h1).1
  have := (famB_focus (f := f) (us := us.set k u') (qs := qs) (k := k) (u := u') (q := q) (List.getElem?_set_self hk) h2).symm
  rwa [List.eraseIdx_set_eq] at this
theorem famB_push : ∀ {us : List U} {qs : List Q} {u : U} {q : Q}, us.length = qs.length → famB f (us ++ [u]) (qs ++ [q]) = famB f us qs ++ f u q
  | [], [], u, q, _ => by simp [famB]
  | a :: us, b :: qs, u, q, h => by
    simp only [List.length_cons, Nat.add_right_cancel_iff] at h
    simp only [List.cons_append, famB, famB_push h, List.append_assoc]
  | [], _ :: _, _, _, h => by simp at h
  | _ :: _, [], _, _, h => by simp at h
theorem mem_famB {x : Nat × TypeId × List Value} : ∀ {us : List U} {qs : List Q}, x ∈ famB f us qs → ∃ (k : Nat) (u : U) (q : Q), us[k]? = some u ∧ qs[k]? = some q ∧ x ∈ f u q
  | a :: us, b :: qs, h => by
    rcases List.mem_append.1 h with h | h
    · exact ⟨0, a, b, rfl, rfl, h⟩
    · obtain ⟨k, u, q, h1, h2, h3⟩ := mem_famB h
      exact ⟨k + 1, u, q, by simpa using h1, by simpa using h2, h3⟩
  | [], _, h => by simp [famB] at h
  | _ :: _, [], h => by simp [famB] at h
end

/-! ### Slices by rows -/
def elC (s k : Nat) : List (Nat × Value) → List (Nat × Value)
  | [] => []
  | p :: r => (smul k s + p.1, p.2) :: elC s k r
theorem flat_at {s : Nat} : ∀ {rows : List (List Value)} {k : Nat} {r : List Value} {j : Nat}, (∀ r ∈ rows, r.length = s) → rows[k]? = some r → j < s → rows.flatten[k * s + j]? = r[j]?
  | a :: rows, 0, r, j, hr, h, hj => by
    simp only [List.getElem?_cons_zero, Option.some.injEq] at h
    subst h
    have := hr a (List.mem_cons_self ..)
    simp only [List.flatten_cons, Nat.zero_mul, Nat.zero_add]
    rw [List.getElem?_append_left (by omega)]
  | a :: rows, k + 1, r, j, hr, h, hj => by
    simp only [List.getElem?_cons_succ] at h
    have ha := hr a (List.mem_cons_self ..)
    have := flat_at (rows := rows) (fun r hm => hr r (List.mem_cons_of_mem _ hm)) h hj
    simp only [List.flatten_cons, Nat.succ_mul]
    rw [List.getElem?_append_right (by omega), ← this]
    congr 1; omega
theorem flat_set {s : Nat} {v : Value} : ∀ {rows : List (List Value)} {k : Nat} {r : List Value} {j : Nat}, (∀ r ∈ rows, r.length = s) → rows[k]? = some r → j < s → rows.flatten.set (k * s + j) v = (rows.set k (r.set j v)).flatten
  | a :: rows, 0, r, j, hr, h, hj => by
    simp only [List.getElem?_cons_zero, Option.some.injEq] at h
    subst h
    have := hr a (List.mem_cons_self ..)
    simp only [List.flatten_cons, Nat.zero_mul, Nat.zero_add, List.set_cons_zero]
    rw [List.set_append_left _ _ (by omega)]
  | a :: rows, k + 1, r, j, hr, h, hj => by
    simp only [List.getElem?_cons_succ] at h
    have ha := hr a (List.mem_cons_self ..)
    have := flat_set (v := v) (rows := rows) (fun r hm => hr r (List.mem_cons_of_mem _ hm)) h hj
    simp only [List.flatten_cons, Nat.succ_mul, List.set_cons_succ, ← this]
    rw [List.set_append_right _ _ (by omega)]
    congr 2; omega
theorem reL_flat {s k : Nat} : ∀ {ps : List (Nat × Value)} {rows : List (List Value)} {r : List Value} {l : List (Nat × Nat × Value)}, (∀ r ∈ rows, r.length = s) → rows[k]? = some r → (∀ p ∈ ps, p.1 < s) → reL (elC s k ps) rows.flatten l = (rows.set k (reL ps r l)).flatten
  | [], rows, r, l, hr, h, _ => by
    simp only [elC, reL]
    rw [show rows.set k r = rows from ?_]
    refine List.ext_getElem? fun j => ?_
    by_cases e : k = j
    · subst e; rw [List.getElem?_set_self (List.getElem?_eq_some_iff.1 h).1, h]
    · rw [List.getElem?_set_ne e]
  | p :: ps, rows, r, [], hr, h, _ => by
    simp only [elC, reL]
    rw [show rows.set k r = rows from ?_]
    refine List.ext_getElem? fun j => ?_
    by_cases e : k = j
    · subst e; rw [List.getElem?_set_self (List.getElem?_eq_some_iff.1 h).1, h]
    · rw [List.getElem?_set_ne e]
  | p :: ps, rows, r, y :: l, hr, h, hp => by
    have hk := (List.getElem?_eq_some_iff.1 h).1
    simp only [elC, reL]
    rw [smul_eq, flat_set hr h (hp p (List.mem_cons_self ..)), reL_flat (s := s) (k := k) (ps := ps) (rows := rows.set k (r.set p.1 y.2.2)) (r := r.set p.1 y.2.2) (fun q hq => ?_) (List.getElem?_set_self hk) (fun q hq => hp q (List.mem_cons_of_mem _ hq)), List.set_set]
    rcases List.mem_or_eq_of_mem_set hq with hq | rfl
    · exact hr q hq
    · rw [List.length_set]; exact hr r (List.mem_of_getElem? h)
section
variable {U : Type} {row : U → List Value}
theorem flatMap_map (us : List U) : us.flatMap row = (us.map row).flatten := by rw [List.flatMap_def]
/-- What was written to a row. -/
theorem reL_row {s k : Nat} {ps : List (Nat × Value)} {us : List U} {u u' : U} {l : List (Nat × Nat × Value)} (hs : ∀ u, (row u).length = s) (hu : us[k]? = some u) (hp : ∀ p ∈ ps, p.1 < s) (he : reL ps (row u) l = row u') : reL (elC s k ps) (us.flatMap row) l = (us.set k u').flatMap row := by
  rw [flatMap_map, flatMap_map, reL_flat (s := s) (r := row u) (fun r hr => ?_) (by rw [List.getElem?_map, hu]; rfl) hp, he, List.map_set]
  obtain ⟨u, _, rfl⟩ := List.mem_map.1 hr
  exact hs u
theorem open_row {s k g : Nat} {ps : List (Nat × Value)} {us : List U} {u : U} {x : Vec} (hv : ∃ n c, x.v = .slice (some ⟨g, 0, none⟩) n c) (hx : x.xs = us.flatMap row) (hs : ∀ u, (row u).length = s) (hu : us[k]? = some u) (hp : ∀ p ∈ ps, (row u)[p.1]? = some p.2) (hn : (ps.map Prod.fst).Nodup) : OpenOk ⟨x, g, elC s k ps⟩ := by
  have e1 : ∀ {ps : List (Nat × Value)}, (elC s k ps).map Prod.fst = (ps.map Prod.fst).map (fun j => smul k s + j) := fun {ps} => by
    induction ps with
    | nil => rfl
    | cons p r ih => simp only [elC, List.map_cons, ih]
  refine ⟨hv, ?_, fun c hc => ?_⟩
  · simp only [e1]
    rw [List.Nodup, List.pairwise_map]
    exact List.Pairwise.imp (fun {a b} h e => h (by omega)) hn
  · have : ∃ p ∈ ps, c = (smul k s + p.1, p.2) := by
      clear e1 hn hp
      simp only at hc
      induction ps with
      | nil => cases hc
      | cons p r ih =>
        rcases List.mem_cons.1 hc with rfl | hc
        · exact ⟨p, List.mem_cons_self .., rfl⟩
        · obtain ⟨q, hq, e⟩ := ih hc
          exact ⟨q, List.mem_cons_of_mem _ hq, e⟩
    obtain ⟨p, hp', rfl⟩ := this
    have hj := (List.getElem?_eq_some_iff.1 (hp p hp')).1
    rw [hs u] at hj
    simp only [hx]
    rw [smul_eq, flatMap_map, flat_at (s := s) (r := row u) (fun r hr => ?_) (by rw [List.getElem?_map, hu]; rfl) hj]
    · exact hp p hp'
    · obtain ⟨u, _, rfl⟩ := List.mem_map.1 hr
      exact hs u
theorem open_one {k g : Nat} {x : Vec} {v : Value} (hv : ∃ n c, x.v = .slice (some ⟨g, 0, none⟩) n c) (hk : x.xs[k]? = some v) : OpenOk ⟨x, g, [(k, v)]⟩ :=
  ⟨hv, by simp, fun c hc => by rw [List.mem_singleton.1 hc]; exact hk⟩
theorem set_same {α : Type} {l : List α} {i : Nat} {v : α} (h : l[i]? = some v) : l.set i v = l := by
  refine List.ext_getElem? fun j => ?_
  by_cases e : i = j
  · subst e
    rw [List.getElem?_set_self (List.getElem?_eq_some_iff.1 h).1, h]
  · rw [List.getElem?_set_ne e]
theorem reL_one {k g o : Nat} {v v' : Value} {xs : List Value} {l : List (Nat × Nat × Value)} : reL (elC 1 k [(0, v)]) xs ((g, o, v') :: l) = xs.set k v' := by simp [elC, reL, smul_eq]
theorem flatMap_len {s : Nat} (hs : ∀ u, (row u).length = s) : ∀ us : List U, (us.flatMap row).length = us.length * s
  | [] => by simp
  | a :: us => by simp only [List.flatMap_cons, List.length_append, hs, flatMap_len hs us, List.length_cons, Nat.succ_mul]; omega
end
theorem opens_nil : ∀ p ∈ ([] : List Open), OpenOk p := fun _ h => by cases h
theorem opens_cons {p : Open} {l : List Open} (h : OpenOk p) (hl : ∀ p ∈ l, OpenOk p) : ∀ q ∈ p :: l, OpenOk q := fun q hq => by
  rcases List.mem_cons.1 hq with rfl | hq
  · exact h
  · exact hl q hq

/-- A walk over blocks and slices. -/
theorem Res.segV {P : Program} (H : Host P) (fn : Func) (s : Seg) (nt : Notes) {o : (Key → Nat) → (Nat → Value) → Fin × List (Nat × Value) × Left}
    (h1 : ∀ ν j, (s.run H fn nt ν j).map Prod.fst = some (o ν j)) (h2 : ∀ ν j, (s.run H fn nt ν j).map lefts = (s.run H fn nt ν j).map rights)
    {W w : World} {O : Nat → Prop} {F GF : List (Nat × TypeId × List Value)} {ro : List (Nat × Nat × Value)} {V GV : List Vec} {rs : List Ro}
    (h : Res W O (F ++ GF) [] (V ++ GV) w) (hr : Looks W ro) (hro : ∀ x ∈ ro, ¬ O x.1) (hrs : ∀ r ∈ rs, RoW W O ro r)
    (hs : s.mem = ⟨F, ro, [], V, rs⟩) (hc : ∀ ν j, ∀ p ∈ (o ν j).2.2.conds, p.1 = p.2)
    (hb : ∀ ν j, (o ν j).2.2.blocks.map Prod.fst = F.map Prod.fst) (hre : ∀ ν j, (o ν j).2.2.loose = ro)
    {X : Nat → Act → World → Prop} {R : Ending → World → Prop} {a : Act} (ha : Fr fn.ntmps s.known a)
    (hQ : ∀ ν j a' w', Fr fn.ntmps (o ν j).2.1 a' → Res W O ((o ν j).2.2.news ++ ((o ν j).2.2.blocks ++ GF)) [] ((o ν j).2.2.vecs ++ GV) w' → Owed P fn X R (o ν j).1 a' w') :
    after P X (bodyPost P fn R) s.items .normal a w :=
  Res.seg (L := []) (GL := []) (ops := []) H fn s nt h1 h2 h opens_nil hr hro hrs hs hc hb (fun ν j => by rw [hre ν j]; rfl) (fun ν j => hre ν j) ha hQ
/-- A walk over blocks and slices, some of which are looked at element by element. -/
theorem Res.segO {P : Program} (H : Host P) (fn : Func) (s : Seg) (nt : Notes) {o : (Key → Nat) → (Nat → Value) → Fin × List (Nat × Value) × Left}
    (h1 : ∀ ν j, (s.run H fn nt ν j).map Prod.fst = some (o ν j)) (h2 : ∀ ν j, (s.run H fn nt ν j).map lefts = (s.run H fn nt ν j).map rights)
    {W w : World} {O : Nat → Prop} {F GF : List (Nat × TypeId × List Value)} {ro : List (Nat × Nat × Value)} {V GV : List Vec} {rs : List Ro} (ops : List Open)
    (h : Res W O (F ++ GF) [] (V ++ (opX ops ++ GV)) w) (ho : ∀ p ∈ ops, OpenOk p) (hr : Looks W ro) (hro : ∀ x ∈ ro, ¬ O x.1) (hrs : ∀ r ∈ rs, RoW W O ro r)
    (hs : s.mem = ⟨F, opsL ops ro, [], V, rs⟩) (hc : ∀ ν j, ∀ p ∈ (o ν j).2.2.conds, p.1 = p.2)
    (hb : ∀ ν j, (o ν j).2.2.blocks.map Prod.fst = F.map Prod.fst) (hl : ∀ ν j, (o ν j).2.2.loose.map ad = (opsL ops ro).map ad) (hre : ∀ ν j, reO ops (o ν j).2.2.loose = ro)
    {X : Nat → Act → World → Prop} {R : Ending → World → Prop} {a : Act} (ha : Fr fn.ntmps s.known a)
    (hQ : ∀ ν j a' w', Fr fn.ntmps (o ν j).2.1 a' → Res W O ((o ν j).2.2.news ++ ((o ν j).2.2.blocks ++ GF)) [] ((o ν j).2.2.vecs ++ (reV ops (o ν j).2.2.loose ++ GV)) w' → Owed P fn X R (o ν j).1 a' w') :
    after P X (bodyPost P fn R) s.items .normal a w :=
  Res.seg (L := []) (GL := []) (ops := ops) H fn s nt h1 h2 h ho hr hro hrs hs hc hb hl hre ha hQ

theorem Fr.put {n : Nat} {l : List (Nat × Value)} {a : Act} (h : Fr n l a) {d : Nat} {v : Value} (hd : d < n) (l' : List (Nat × Value)) (h1 : ∀ x ∈ l', x ∈ l) (h2 : ∀ x ∈ l', x.1 ≠ d) : Fr n ((d, v) :: l') (a.put (some d) v) := by
  refine ⟨by simpa [Act.put] using h.size, by simpa [Act.put] using h.defers, fun x hx => ?_⟩
  rcases List.mem_cons.1 hx with rfl | hx
  · simp only [Act.put, Array.getD_eq_getD_getElem?]
    rw [Array.getElem?_setIfInBounds_self, if_pos (by rw [h.size]; exact hd)]
    rfl
  · have := h.vals x (h1 x hx)
    simp only [Act.put, Array.getD_eq_getD_getElem?] at this ⊢
    rw [Array.getElem?_setIfInBounds_ne (fun e => h2 x hx e.symm)]
    exact this
theorem Fr.less {n : Nat} {l l' : List (Nat × Value)} {a : Act} (h : Fr n l a) (h1 : ∀ x ∈ l', x ∈ l) : Fr n l' a := ⟨h.size, h.defers, fun x hx => h.vals x (h1 x hx)⟩

/-! ### A contract's end -/
def newsB : List (TypeId × List Value) → List Nat → List (Nat × TypeId × List Value)
  | x :: r, b :: l => (b, x.1, x.2) :: newsB r l
  | _, _ => []
theorem newsB_at : ∀ {ns : List (TypeId × List Value)} {ls : List Nat} {i : Nat} {x : TypeId × List Value}, ns.length ≤ ls.length → ns[i]? = some x → ∃ b, ls[i]? = some b ∧ (b, x.1, x.2) ∈ newsB ns ls
  | y :: r, b :: l, 0, x, _, h => by
    simp only [List.getElem?_cons_zero, Option.some.injEq] at h
    subst h
    exact ⟨b, rfl, List.mem_cons_self ..⟩
  | y :: r, b :: l, i + 1, x, hl, h => by
    obtain ⟨b', h1, h2⟩ := newsB_at (ns := r) (ls := l) (i := i) (by simpa using hl) (by simpa using h)
    exact ⟨b', by simpa using h1, List.mem_cons_of_mem _ h2⟩
  | y :: r, [], i, x, hl, _ => by simp at hl
  | [], _, i, x, _, h => by simp at h
theorem newsB_fst : ∀ {ns : List (TypeId × List Value)} {ls : List Nat}, ns.length ≤ ls.length → (newsB ns ls).map Prod.fst = ls.take ns.length
  | [], ls, _ => by simp [newsB]
  | y :: r, b :: l, h => by simp only [newsB, List.map_cons, List.length_cons, List.take_succ_cons, newsB_fst (ns := r) (ls := l) (by simpa using h)]
  | y :: r, [], h => by simp at h
/-- The end of a contract's proof: what it may have changed are the slices that were handed in. -/
theorem Res.metR {w w' : World} {z : Ends} {ls : List Nat} {R GV : List Vec} {GF : List (Nat × TypeId × List Value)} {L : List (Nat × Nat × Value)} (h : Res w (fun k => ∃ x ∈ R, x.v.ownBlock = some k) (newsB z.news ls ++ GF) L (rowsNow z.sets 0 R ++ (z.vecs ++ GV)) w')
    (hst : z.st = []) (hls : z.news.length ≤ ls.length) : z.Met ls R w w' := by
  obtain ⟨⟨h1, h2, h3, h4, h5, h6, h7, h8, h9, _⟩, i1, i2, i3, i4⟩ := h
  have rown : ∀ x ∈ R, ∃ y ∈ rowsNow z.sets 0 R, y.v = x.v := fun x hx => by
    obtain ⟨i, hi⟩ := List.mem_iff_getElem?.1 hx
    exact ⟨_, rowsNow_mem (sets := z.sets) (j := 0) hi, rfl⟩
  have fresh : ∀ x ∈ newsB z.news ls ++ GF, w.heap.size ≤ x.1 := fun x hx => by
    rcases i1 x hx with ⟨y, hy, e⟩ | h
    · exfalso
      obtain ⟨u, hu, e2⟩ := rown y hy
      exact (h8 u (List.mem_append_left _ hu) x.1 (by rw [e2]; exact e)).1 (List.mem_map_of_mem hx)
    · exact h
  have hnd : (ls.take z.news.length).Nodup := by
    rw [List.map_append] at h2
    have := (List.nodup_append.1 h2).1
    rwa [newsB_fst hls] at this
  refine ⟨by simp [hst], fun i x hx => ?_, fun i j b hi hj ei ej => ?_, fun x hx => h7 x (List.mem_append_right _ (List.mem_append_left _ hx)), fun x hx g hg => ⟨?_, fun i hi e => ?_⟩, ?_, fun x hx => h7 x (List.mem_append_left _ hx), i4.mono fun k i hc => .inr hc⟩
  · obtain ⟨b, hb, hm⟩ := newsB_at hls hx
    exact ⟨b, hb, h1 _ (List.mem_append_left _ hm), fresh _ (List.mem_append_left _ hm)⟩
  · refine nodup_at hnd (i := i) (j := j) (b := b) ?_ ?_
    · rw [List.getElem?_take_of_lt hi]; exact ei
    · rw [List.getElem?_take_of_lt hj]; exact ej
  · have hx' : x ∈ rowsNow z.sets 0 R ++ (z.vecs ++ GV) := List.mem_append_right _ (List.mem_append_left _ hx)
    rcases i3 x hx' g hg with ⟨y, hy, e⟩ | h
    · exfalso
      obtain ⟨u, hu, e2⟩ := rown y hy
      exact (List.pairwise_append.1 h9).2.2 u hu x (List.mem_append_left _ hx) g (by rw [e2]; exact e) hg
    · exact h
  · have hx' : x ∈ rowsNow z.sets 0 R ++ (z.vecs ++ GV) := List.mem_append_right _ (List.mem_append_left _ hx)
    have hi2 : (z.news[i]?) = some z.news[i] := List.getElem?_eq_getElem hi
    obtain ⟨b, hb, hm⟩ := newsB_at hls hi2
    rw [hb] at e
    cases e
    exact (h8 x hx' g hg).1 (by rw [List.map_append]; exact List.mem_append_left _ (List.mem_map_of_mem hm))
  · exact (List.pairwise_append.1 (List.pairwise_append.1 h9).2.1).1
theorem not_own {l : List (Nat × Nat × Value)} {R : List Vec} {w : World} (hr : RowsOk w l R) : ∀ y ∈ l, ¬ ∃ x ∈ R, x.v.ownBlock = some y.1 := fun y hy ⟨x, hx, e⟩ => hr.off x hx y.1 e y hy rfl
end Go.Proofs.YtmihblocomnfjaaDoor.Sy
