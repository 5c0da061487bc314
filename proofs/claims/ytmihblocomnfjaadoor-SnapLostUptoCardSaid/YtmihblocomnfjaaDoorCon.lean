/- Contracts: what a function of the program does, told by a short list: what it looks at, what is asked, what it leaves; a walk takes a call by it. -/
import Derived.Test.YtmihblocomnfjaaDoorSyUse
set_option linter.unusedSimpArgs false
set_option linter.unusedVariables false
namespace Go.Proofs.YtmihblocomnfjaaDoor.Sy
open Go

/-- What a call leaves: its result, the cells that it wrote, new blocks, new slices of its own. -/
structure Ends where
  res : Value
  st : List (Nat × Nat × Value) := []
  news : List (TypeId × List Value) := []
  vecs : List Vec := []
  sets : List (Nat × List Value) := []

/-- What a row that was looked at has behind the call. -/
def rowNow : List (Nat × List Value) → Nat → List Value → List Value
  | [], _, xs => xs
  | s :: r, j, xs => match Nat.beq s.1 j with
    | true => s.2
    | false => rowNow r j xs
def rowsNow (sets : List (Nat × List Value)) : Nat → List Vec → List Vec
  | _, [] => []
  | j, x :: r => { x with xs := rowNow sets j x.xs } :: rowsNow sets (j + 1) r
theorem rowsNow_nil : ∀ (j : Nat) (R : List Vec), rowsNow [] j R = R
  | _, [] => rfl
  | j, x :: r => by simp only [rowsNow, rowNow, rowsNow_nil (j + 1) r]
theorem rowsNow_mem {sets : List (Nat × List Value)} : ∀ {R : List Vec} {j i : Nat} {x : Vec}, R[i]? = some x → ({ x with xs := rowNow sets (j + i) x.xs } : Vec) ∈ rowsNow sets j R
  | y :: r, j, 0, x, h => by
    simp only [List.getElem?_cons_zero, Option.some.injEq] at h
    subst h
    exact List.mem_cons_self ..
  | y :: r, j, i + 1, x, h => by
    have := rowsNow_mem (sets := sets) (j := j + 1) (i := i) (R := r) (by simpa using h)
    rw [show j + (i + 1) = j + 1 + i by omega]
    exact List.mem_cons_of_mem _ this
theorem mem_rowsNow {sets : List (Nat × List Value)} : ∀ {R : List Vec} {j : Nat} {y : Vec}, y ∈ rowsNow sets j R → ∃ (i : Nat) (x : Vec), R[i]? = some x ∧ y = { x with xs := rowNow sets (j + i) x.xs }
  | x :: r, j, y, h => by
    rcases List.mem_cons.1 h with rfl | h
    · exact ⟨0, x, rfl, rfl⟩
    · obtain ⟨i, z, h1, h2⟩ := mem_rowsNow h
      exact ⟨i + 1, z, by simpa using h1, by rw [h2, show j + 1 + i = j + (i + 1) by omega]⟩

inductive CP where
  | fail
  | load (a : Addr) (k : Value → CP)
  | row (v : Value) (e size : Nat) (k : Nat → List Value → CP)
  | test (b : Bool) (k : Bool → CP)
  | done (n : Nat) (o : List Nat → Ends)

/-- What is asked of the world ('L', 'R': the cells, the slices that were looked at so far). -/
def CP.Pre (w : World) : CP → List Addr → List Vec → Prop
  | .fail, _, _ => False
  | .load a k, L, R => a ∉ L ∧ (∀ x ∈ R, x.v.ownBlock ≠ some a.block) ∧ ∃ v, w.cell? a = some v ∧ w.frozen? a = false ∧ (k v).Pre w (a :: L) R
  | .row v e size k, L, R => ∃ n xs, w.ownsRow 0 e size v n xs ∧ (∀ g, v.ownBlock = some g → (∀ a ∈ L, a.block ≠ g) ∧ ∀ x ∈ R, x.v.ownBlock ≠ some g) ∧ (k n xs).Pre w L (⟨e, size, v, n, xs⟩ :: R)
  | .test b k, L, R => (k b).Pre w L R
  | .done _ _, _, _ => True

structure Ends.Met (z : Ends) (l : List Nat) (R : List Vec) (w w' : World) : Prop where
  st : ∀ x ∈ z.st, w'.cell? ⟨x.1, x.2.1, none⟩ = some x.2.2
  news : ∀ (i : Nat) x, z.news[i]? = some x → ∃ b, l[i]? = some b ∧ Blk w' b x.1 x.2 ∧ w.heap.size ≤ b
  nodup : ∀ i j b, i < z.news.length → j < z.news.length → l[i]? = some b → l[j]? = some b → i = j
  vec : ∀ x ∈ z.vecs, w'.ownsRow 0 x.e x.size x.v x.n x.xs
  vnew : ∀ x ∈ z.vecs, ∀ g, x.v.ownBlock = some g → w.heap.size ≤ g ∧ ∀ i, i < z.news.length → l[i]? ≠ some g
  vdist : z.vecs.Pairwise (fun x y => ∀ g, x.v.ownBlock = some g → y.v.ownBlock ≠ some g)
  rows : ∀ x ∈ rowsNow z.sets 0 R, w'.ownsRow 0 x.e x.size x.v x.n x.xs
  sub : Sub (fun k i => (∃ x ∈ z.st, x.1 = k ∧ x.2.1 = i) ∨ ∃ x ∈ R, x.v.ownBlock = some k) w w'

def CP.Out (w : World) (e : Ending) (w' : World) : CP → List Vec → Prop
  | .fail, _ => False
  | .load a k, R => ∃ v, w.cell? a = some v ∧ (k v).Out w e w' R
  | .row v e' size k, R => ∃ n xs, w.ownsRow 0 e' size v n xs ∧ (k n xs).Out w e w' (⟨e', size, v, n, xs⟩ :: R)
  | .test b k, R => (k b).Out w e w' R
  | .done n o, R => ∃ l : List Nat, l.length = n ∧ e = .returned (o l).res ∧ (o l).Met l R w w'

structure Contract where
  f : FuncId
  prog : Array Value → CP
def Contract.Ok (P : Program) (c : Contract) : Prop := ∀ args w, (c.prog args).Pre w [] [] → Calls P c.f args w fun e w' => (c.prog args).Out w e w' []

/-! ### A walk by contracts -/
def hasN (i : Nat) : List Nat → Bool
  | [] => false
  | j :: r => match Nat.beq i j with
    | true => true
    | false => hasN i r
theorem hasN_mem {i : Nat} : ∀ {l : List Nat}, hasN i l = false → i ∉ l
  | [], _ => by simp
  | j :: r, h => by
    simp only [hasN] at h
    split at h
    · cases h
    · rename_i hb
      have h1 := hasN_mem h
      have h2 : i ≠ j := fun e => by subst e; simp at hb
      simp [h1, h2]

def letters (ν : Key → Nat) (key : Key) : Nat → Nat → List Nat
  | 0, _ => []
  | n + 1, j => ν (j :: key) :: letters ν key n (j + 1)

def storesE (S : Strat) : List (Nat × Nat × Value) → St → Option St
  | [], st => some st
  | x :: r, st => match st.look S ⟨x.1, x.2.1, none⟩ with
    | none => none
    | some (i, c, st') => match c.v with
      | none => none
      | some _ => storesE S r { st' with cells := setVal x.2.2 st'.cells i, wr := (x.1, x.2.1) :: st'.wr }

def addNew (b : Nat) (key : Key) (t : TypeId) (vs : List Value) (st : St) : St :=
  { st with cells := putNew (newCells b key vs 0) key st.cells, shapes := { st.shapes with l := putShape (b, t, vs.length, key) st.shapes.l } }
def newsE (key : Key) : List (TypeId × List Value) → List Nat → Nat → St → St
  | x :: r, b :: l, j, st => newsE key r l (j + 1) (addNew b (j :: key) x.1 x.2 st)
  | _, _, _, st => st
def vecsE (vs : List Vec) (st : St) : St := match vs with
  | [] => st
  | _ => { st with shapes := { st.shapes with vecs := st.shapes.vecs ++ vs } }

/-- Which place of the rows that were looked at a slice has. -/
def posOf (i : Nat) : List Nat → Nat → Option Nat
  | [], _ => none
  | k :: r, j => match Nat.beq k i with
    | true => some j
    | false => posOf i r (j + 1)
def setRows (sets : List (Nat × List Value)) (racc : List Nat) : Nat → List Vec → List Vec
  | _, [] => []
  | i, x :: r => (match posOf i racc 0 with
    | none => x
    | some j => { x with xs := rowNow sets j x.xs }) :: setRows sets racc (i + 1) r
def rowsE (sets : List (Nat × List Value)) (racc : List Nat) (st : St) : St := match sets with
  | [] => st
  | _ => { st with shapes := { st.shapes with vecs := setRows sets racc 0 st.shapes.vecs } }

def cpE (S : Strat) (ν : Key → Nat) (key : Key) : CP → List Nat → List Nat → St → Option (Value × St)
  | .fail, _, _, _ => none
  | .load a k, acc, racc, st => match st.look S a with
    | none => none
    | some (i, c, st') => match hasN i acc with
      | true => none
      | false => match c.v with
        | none => none
        | some v => cpE S ν key (k v) (i :: acc) racc st'
  | .row v e size k, acc, racc, st => match S.vec (racc.length :: key) st.shapes.vecs (blkOf v) st.shapes.todo with
    | none => none
    | some (i, todo) => match nth st.shapes.vecs i with
      | some x => match hasN i racc with
        | true => none
        | false => match Nat.beq x.e e && Nat.beq x.size size with
          | true => cpE S ν key (k x.n x.xs) acc (i :: racc) { st with eqs := (v, x.v) :: st.eqs, shapes := { st.shapes with todo := todo } }
          | false => none
      | none => match hasN i racc with
        | true => none
        | false => cpE S ν key (k 0 []) acc (i :: racc) { st with eqs := (v, .slice none 0 0) :: st.eqs, shapes := { st.shapes with todo := todo } }
  | .test b k, acc, racc, st => match st.guess S b with
    | none => none
    | some (g, st') => cpE S ν key (k g) acc racc st'
  | .done n o, _, racc, st => match o (letters ν key n 0) with
    | ⟨res, ws, news, vecs, sets⟩ => match storesE S ws st with
      | none => none
      | some st1 => some (res, vecsE vecs (newsE key news (letters ν key n 0) 0 (rowsE sets racc st1)))

def findC (f : FuncId) : List Contract → Option (Array Value → CP)
  | [] => none
  | c :: r => match Nat.beq f c.f with
    | true => some c.prog
    | false => findC f r
def isOn (f : FuncId) : List Contract → Bool
  | [] => false
  | c :: r => match Nat.beq f c.f with
    | true => true
    | false => isOn f r
def absOf (cs : List Contract) (S : Strat) : Abs where
  on f := isOn f cs
  run ν key f args st := match findC f cs with
    | none => none
    | some p => cpE S ν key (p args) [] [] st

/-! ### It is right -/
theorem stores_mono {S : Strat} : ∀ {l : List (Nat × Nat × Value)} {st st' : St}, storesE S l st = some st' → st'.Ok → st.Ok
  | [], st, st', h, hk => by simp only [storesE, Option.some.injEq] at h; subst h; exact hk
  | x :: r, st, st', h, hk => by
    simp only [storesE] at h
    split at h
    · cases h
    · rename_i i c s1 hl
      split at h
      · cases h
      · have h1 := stores_mono h hk
        exact (look_ok hl ⟨h1.eqs, h1.conds⟩).1

theorem news_same {key : Key} : ∀ (l : List (TypeId × List Value)) (bs : List Nat) (j : Nat) (st : St), (newsE key l bs j st).eqs = st.eqs ∧ (newsE key l bs j st).conds = st.conds ∧ (newsE key l bs j st).shapes.vecs = st.shapes.vecs ∧ (newsE key l bs j st).shapes.todo = st.shapes.todo
  | [], bs, j, st => by simp [newsE]
  | x :: r, [], j, st => by simp [newsE]
  | x :: r, b :: bs, j, st => by simp only [newsE]; exact news_same r bs (j + 1) _

theorem vecsE_ok {vs : List Vec} {st : St} : (vecsE vs st).eqs = st.eqs ∧ (vecsE vs st).conds = st.conds ∧ (vecsE vs st).cells = st.cells ∧ (vecsE vs st).shapes = { st.shapes with vecs := st.shapes.vecs ++ vs } := by
  cases vs <;> simp [vecsE]

theorem rows_same {sets : List (Nat × List Value)} {racc : List Nat} {st : St} : (rowsE sets racc st).eqs = st.eqs ∧ (rowsE sets racc st).conds = st.conds ∧ (rowsE sets racc st).cells = st.cells ∧ (rowsE sets racc st).shapes = { st.shapes with vecs := match sets with | [] => st.shapes.vecs | _ => setRows sets racc 0 st.shapes.vecs } := by
  cases sets <;> simp [rowsE]

theorem cp_mono {S : Strat} {ν : Key → Nat} {key : Key} : ∀ (c : CP) (acc racc : List Nat) (st : St) (r : Value) (st' : St), cpE S ν key c acc racc st = some (r, st') → st'.Ok → st.Ok := by
  intro c
  induction c with
  | fail => intro acc racc st r st' h; cases h
  | load a k ih =>
    intro acc racc st r st' h hk
    simp only [cpE] at h
    split at h
    · cases h
    · rename_i i c s1 hl
      split at h
      · cases h
      · split at h
        · cases h
        · exact (look_ok hl (ih _ _ _ _ _ _ h hk)).1
  | row v e size k ih =>
    intro acc racc st r st' h hk
    simp only [cpE] at h
    split at h
    · cases h
    · split at h
      · split at h
        · cases h
        · split at h
          · have h1 := ih _ _ _ _ _ _ _ h hk
            exact ⟨fun p hp => h1.eqs p (List.mem_cons_of_mem _ hp), h1.conds⟩
          · cases h
      · split at h
        · cases h
        · have h1 := ih _ _ _ _ _ _ _ h hk
          exact ⟨fun p hp => h1.eqs p (List.mem_cons_of_mem _ hp), h1.conds⟩
  | test b k ih =>
    intro acc racc st r st' h hk
    simp only [cpE] at h
    split at h
    · cases h
    · rename_i g s1 hg
      exact (guess_ok hg (ih _ _ _ _ _ _ h hk)).1
  | done n o =>
    intro acc racc st r st' h hk
    simp only [cpE] at h
    split at h
    · cases h
    · rename_i s1 hs
      simp only [Option.some.injEq, Prod.mk.injEq] at h
      obtain ⟨_, rfl⟩ := h
      refine stores_mono hs ⟨?_, ?_⟩
      · have := hk.eqs; rw [vecsE_ok.1, (news_same _ _ _ _).1, rows_same.1] at this; exact this
      · have := hk.conds; rw [vecsE_ok.2.1, (news_same _ _ _ _).2.1, rows_same.2.1] at this; exact this

/-- What the stores leave of the list. -/
theorem stores_ok {S : Strat} : ∀ {l : List (Nat × Nat × Value)} {st st' : St}, storesE S l st = some st' → st'.Ok → st.cells.Pairwise Apart →
    st'.shapes = st.shapes ∧ st'.cells.Pairwise Apart ∧ (∀ x ∈ l, ∃ d ∈ st.cells, d.b = x.1 ∧ d.o = x.2.1) ∧
    ∀ c ∈ st'.cells, (∃ d ∈ st.cells, d.b = c.b ∧ d.o = c.o) ∧ ((c ∈ st.cells ∧ ∀ x ∈ l, ¬ (x.1 = c.b ∧ x.2.1 = c.o)) ∨ ∃ x ∈ l, x.1 = c.b ∧ x.2.1 = c.o ∧ c.v = some x.2.2)
  | [], st, st', h, hk, hd => by
    simp only [storesE, Option.some.injEq] at h
    subst h
    exact ⟨rfl, hd, by simp, fun c hc => ⟨⟨c, hc, rfl, rfl⟩, .inl ⟨hc, by simp⟩⟩⟩
  | x :: r, st, st', h, hk, hd => by
    simp only [storesE] at h
    split at h
    · cases h
    · rename_i i c s1 hl
      split at h
      · cases h
      · have h1 := stores_mono h hk
        obtain ⟨_, ha, hci, hcs, hss⟩ := look_ok hl ⟨h1.eqs, h1.conds⟩
        simp only [Addr.mk.injEq, and_true] at ha
        have hm := List.mem_of_getElem? hci
        obtain ⟨e1, e2, e3, e4⟩ := stores_ok h hk (by simp only [hcs]; exact setVal_dist hd)
        simp only [hcs] at e3 e4
        refine ⟨e1.trans hss, e2, fun y hy => ?_, fun d hdm => ?_⟩
        · rcases List.mem_cons.1 hy with rfl | hy
          · exact ⟨c, hm, ha.1.symm, ha.2.symm⟩
          · obtain ⟨d, hd1, hd2⟩ := e3 y hy
            obtain ⟨d', hd', q1, q2, _⟩ := mem_setVal hd1
            exact ⟨d', hd', by rw [← q1, hd2.1], by rw [← q2, hd2.2]⟩
        · obtain ⟨⟨d1, hd1, p1, p2⟩, e5⟩ := e4 d hdm
          obtain ⟨d2, hd2, q1, q2, _⟩ := mem_setVal hd1
          refine ⟨⟨d2, hd2, by rw [← q1, p1], by rw [← q2, p2]⟩, ?_⟩
          rcases e5 with ⟨e5, e6⟩ | ⟨y, hy, e5⟩
          · rcases mem_setVal' hd hci e5 with ⟨g1, g2⟩ | ⟨g1, g2, g3⟩
            · refine .inl ⟨g1, fun y hy => ?_⟩
              rcases List.mem_cons.1 hy with rfl | hy
              · rw [ha.1, ha.2]; exact fun hh => g2 ⟨hh.1.symm, hh.2.symm⟩
              · exact e6 y hy
            · exact .inr ⟨x, List.mem_cons_self .., by rw [g1, ha.1], by rw [g2, ha.2], g3⟩
          · exact .inr ⟨y, List.mem_cons_of_mem _ hy, e5⟩

theorem stores_uni {S S' : Strat} : ∀ {l : List (Nat × Nat × Value)} {st st' s2 s2' : St}, storesE S l st = some st' → storesE S' l s2 = some s2' → st'.Ok → s2'.Ok → st.cells = s2.cells → st.cells.Pairwise Apart → st'.cells = s2'.cells
  | [], st, st', s2, s2', h, h', _, _, e, _ => by
    simp only [storesE, Option.some.injEq] at h h'
    subst h h'
    exact e
  | x :: r, st, st', s2, s2', h, h', hk, hk', e, hd => by
    simp only [storesE] at h h'
    split at h
    · cases h
    · rename_i i c s1 hl
      split at h
      · cases h
      · split at h'
        · cases h'
        · rename_i i' c' s1' hl'
          split at h'
          · cases h'
          · have h1 := stores_mono h hk
            have h1' := stores_mono h' hk'
            obtain ⟨_, ha, hci, hcs, _⟩ := look_ok hl ⟨h1.eqs, h1.conds⟩
            obtain ⟨_, ha', hci', hcs', _⟩ := look_ok hl' ⟨h1'.eqs, h1'.conds⟩
            rw [ha] at ha'
            simp only [Addr.mk.injEq, and_true] at ha'
            rw [← e] at hci'
            have hi := idx_one hd hci hci' ha'.1 ha'.2
            subst hi
            exact stores_uni h h' hk hk' (by simp only [hcs, hcs', e]) (by simp only [hcs]; exact setVal_dist hd)

theorem _root_.Go.Proofs.YtmihblocomnfjaaDoor.Sy.Sub.cell {C : Nat → Nat → Prop} {w w' : World} (h : Sub C w w') {b o : Nat} {v : Value} (hc : w.cell? ⟨b, o, none⟩ = some v) (hn : ¬ C b o) : w'.cell? ⟨b, o, none⟩ = some v := by
  have hl := lt_of_cell? hc
  have e : w.heap[b]? = some w.heap[b] := Array.getElem?_eq_getElem hl
  have a := h.block b hl _ e
  revert a e
  generalize w.heap[b] = ob
  intro e a
  cases ob with
  | cells c t f =>
    obtain ⟨c', h1, h2, h3⟩ := a
    simp only [World.cell?, e, h1] at hc ⊢
    rw [h3 o hn]
    exact hc
  | _ => simp only [World.cell?, e] at hc; cases hc

theorem Sub.far {C : Nat → Nat → Prop} {w w' : World} (h : Sub C w w') {g : Nat} (hl : g < w.heap.size) (hn : ∀ i, ¬ C g i) : w'.heap[g]? = w.heap[g]? := by
  have e : w.heap[g]? = some w.heap[g] := Array.getElem?_eq_getElem hl
  have a := h.block g hl _ e
  rw [e]
  revert a
  generalize w.heap[g] = ob
  intro a
  cases ob with
  | cells c t f =>
    obtain ⟨c', h1, h2, h3⟩ := a
    have : c' = c := Array.ext_getElem? fun i => h3 i (hn i)
    rw [h1, this]
  | _ => exact a

/-- The world has gone on: the list with its new values stands. -/
theorem Inv.move {C C' : Nat → Nat → Prop} {B : Nat} {w w' : World} {st st' : St} (h : Inv C B w st) (hs : Sub C' w w') (hs2 : Sub (fun k i => C k i ∨ B ≤ k) w w') (hros : st'.shapes.ros = st.shapes.ros) (hsl : st'.shapes.l = st.shapes.l) (hd : st'.cells.Pairwise Apart)
    (hc : ∀ c ∈ st'.cells, (∃ d ∈ st.cells, d.b = c.b ∧ d.o = c.o) ∧ ∀ v, c.v = some v → w'.cell? ⟨c.b, c.o, none⟩ = some v) (hvm : ∀ y ∈ st'.shapes.vecs, ∃ x ∈ st.shapes.vecs, y.v = x.v) (hvd : st'.shapes.vecs.Pairwise (fun x y => ∀ g, x.v.ownBlock = some g → y.v.ownBlock ≠ some g))
    (hv : ∀ x ∈ st'.shapes.vecs, w'.ownsRow 0 x.e x.size x.v x.n x.xs) : Inv C B w' st' := by
  refine ⟨fun c hm => (hc c hm).2, fun c hm => ?_, hd, fun s hm => ?_, fun c hm => ?_, fun s hm => ?_, fun c hm => ?_, hv, fun y hy g hg => ?_, hvd, by rw [hsl]; exact h.sfresh, by rw [hsl]; exact h.sdist, fun r hr => (h.ro r (hros ▸ hr)).sub hs2⟩
  · obtain ⟨⟨d, hd1, e1, e2⟩, _⟩ := hc c hm
    rw [← e1, ← e2, hs.frozen (h.lt d hd1)]
    exact h.free d hd1
  · rw [hsl] at hm
    rw [hs.shape (h.slt s hm)]
    exact h.shp s hm
  · obtain ⟨⟨d, hd1, e1, e2⟩, _⟩ := hc c hm
    rw [← e1]
    exact Nat.lt_of_lt_of_le (h.lt d hd1) hs.size
  · rw [hsl] at hm
    exact Nat.lt_of_lt_of_le (h.slt s hm) hs.size
  · obtain ⟨⟨d, hd1, e1, e2⟩, _⟩ := hc c hm
    rw [← e1, ← e2]
    exact h.own d hd1
  · obtain ⟨x, hx, e⟩ := hvm y hy
    rw [e] at hg
    refine ⟨fun c hm => ?_, ?_, (h.vsep x hx g hg).2.2⟩
    · obtain ⟨⟨d, hd1, e1, e2⟩, _⟩ := hc c hm
      rw [← e1]
      exact (h.vsep x hx g hg).1 d hd1
    · rw [hsl]
      exact (h.vsep x hx g hg).2.1

theorem setRows_get {sets : List (Nat × List Value)} {racc : List Nat} : ∀ {l : List Vec} {k i : Nat} {y : Vec}, (setRows sets racc k l)[i]? = some y → ∃ x, l[i]? = some x ∧ y = (match posOf (k + i) racc 0 with
    | none => x
    | some j => { x with xs := rowNow sets j x.xs })
  | x :: r, k, 0, y, h => by
    simp only [setRows, List.getElem?_cons_zero, Option.some.injEq] at h
    exact ⟨x, rfl, by rw [← h]; rfl⟩
  | x :: r, k, i + 1, y, h => by
    simp only [setRows, List.getElem?_cons_succ] at h
    obtain ⟨z, h1, h2⟩ := setRows_get h
    exact ⟨z, by simpa using h1, by rw [h2, show k + 1 + i = k + (i + 1) by omega]⟩
theorem setRows_v {sets : List (Nat × List Value)} {racc : List Nat} : ∀ {l : List Vec} {k : Nat}, (setRows sets racc k l).map Vec.v = l.map Vec.v
  | [], _ => rfl
  | x :: r, k => by
    simp only [setRows, List.map_cons, setRows_v (l := r) (k := k + 1)]
    congr 1
    split <;> rfl
theorem posOf_get {i : Nat} : ∀ {l : List Nat} {k j : Nat}, posOf i l k = some j → k ≤ j ∧ l[j - k]? = some i
  | x :: r, k, j, h => by
    simp only [posOf] at h
    split at h
    · rename_i hb
      simp only [Option.some.injEq] at h
      subst h
      have := Nat.eq_of_beq_eq_true hb
      subst this
      exact ⟨Nat.le_refl _, by rw [Nat.sub_self]; rfl⟩
    · obtain ⟨h1, h2⟩ := posOf_get h
      refine ⟨by omega, ?_⟩
      rw [show j - k = (j - (k + 1)) + 1 by omega]
      simpa using h2
theorem posOf_none {i : Nat} : ∀ {l : List Nat} {k : Nat}, posOf i l k = none → i ∉ l
  | [], _, _ => by simp
  | x :: r, k, h => by
    simp only [posOf] at h
    split at h
    · cases h
    · rename_i hb
      have h1 := posOf_none h
      have h2 : i ≠ x := fun e => by subst e; simp at hb
      simp [h1, h2]
theorem dist_v {l l' : List Vec} (h : l'.map Vec.v = l.map Vec.v) (hp : l.Pairwise (fun x y => ∀ g, x.v.ownBlock = some g → y.v.ownBlock ≠ some g)) : l'.Pairwise (fun x y => ∀ g, x.v.ownBlock = some g → y.v.ownBlock ≠ some g) := by
  have e : ∀ l : List Vec, l.Pairwise (fun x y => ∀ g, x.v.ownBlock = some g → y.v.ownBlock ≠ some g) ↔ (l.map Vec.v).Pairwise (fun x y => ∀ g, x.ownBlock = some g → y.ownBlock ≠ some g) := fun l => (List.pairwise_map (R := fun (x y : Value) => ∀ g, x.ownBlock = some g → y.ownBlock ≠ some g) (f := Vec.v)).symm
  rw [e, h, ← e]
  exact hp

/-- One more block is known. -/
theorem Inv.more {C : Nat → Nat → Prop} {B : Nat} {w : World} {st : St} {b t : Nat} {vs : List Value} {key : Key} (h : Inv C B w st) (hb : Blk w b t vs) (hB : B ≤ b) (h1 : ∀ c ∈ st.cells, c.b ≠ b) (h2 : ∀ s ∈ st.shapes.l, s.1 ≠ b)
    (h3 : ∀ x ∈ st.shapes.vecs, x.v.ownBlock ≠ some b) : Inv C B w (addNew b key t vs st) := by
  have hlt : b < w.heap.size := lt_of_shape hb.1
  refine ⟨fun d hd x hx => ?_, fun d hd => ?_, putNew_dist newCells_dist h.dist (fun a ha c hc => ?_), fun s hs => ?_, fun d hd => ?_, fun s hs => ?_, fun d hd => ?_, h.vec, fun x hx g hg => ⟨fun d hd => ?_, fun s hs => ?_, (h.vsep x hx g hg).2.2⟩, h.vdist, fun s hs => ?_,
    putShape_dist (fun d hd => .inr (h2 d hd).symm) (fun d hd => .inr (h2 d hd)) h.sdist, h.ro⟩
  · rcases mem_putNew hd with hd | hd
    · obtain ⟨j, v, hj, rfl⟩ := mem_newCells hd
      simp only [Option.some.injEq] at hx
      subst hx
      simp only [Nat.zero_add]
      exact (hb.2 j v hj).1
    · exact h.cell d hd x hx
  · rcases mem_putNew hd with hd | hd
    · obtain ⟨j, v, hj, rfl⟩ := mem_newCells hd
      simp only [Nat.zero_add]
      exact (hb.2 j v hj).2
    · exact h.free d hd
  · obtain ⟨j, v, hj, rfl⟩ := mem_newCells ha
    exact (h1 c hc).symm
  · rcases mem_putShape hs with rfl | hs
    · exact hb.1
    · exact h.shp s hs
  · rcases mem_putNew hd with hd | hd
    · obtain ⟨j, v, hj, rfl⟩ := mem_newCells hd; exact hlt
    · exact h.lt d hd
  · rcases mem_putShape hs with rfl | hs
    · exact hlt
    · exact h.slt s hs
  · rcases mem_putNew hd with hd | hd
    · obtain ⟨j, v, hj, rfl⟩ := mem_newCells hd; exact .inr hB
    · exact h.own d hd
  · rcases mem_putNew hd with hd | hd
    · obtain ⟨j, v, hj, rfl⟩ := mem_newCells hd
      exact fun e => h3 x hx (by rw [hg, ← e])
    · exact (h.vsep x hx g hg).1 d hd
  · rcases mem_putShape hs with rfl | hs
    · exact fun e => h3 x hx (by rw [hg, ← e])
    · exact (h.vsep x hx g hg).2.1 s hs
  · rcases mem_putShape hs with rfl | hs
    · exact .inr hB
    · exact h.sfresh s hs

theorem Inv.news {C : Nat → Nat → Prop} {B : Nat} {w : World} {key : Key} : ∀ (l : List (TypeId × List Value)) (bs : List Nat) (j : Nat) (st : St), Inv C B w st →
    (∀ (i : Nat) x, l[i]? = some x → ∃ b, bs[i]? = some b ∧ Blk w b x.1 x.2 ∧ B ≤ b ∧ (∀ c ∈ st.cells, c.b ≠ b) ∧ (∀ s ∈ st.shapes.l, s.1 ≠ b) ∧ ∀ x ∈ st.shapes.vecs, x.v.ownBlock ≠ some b) →
    (∀ i j b, i < l.length → j < l.length → bs[i]? = some b → bs[j]? = some b → i = j) → Inv C B w (newsE key l bs j st)
  | [], bs, j, st, h, _, _ => by simpa only [newsE] using h
  | x :: r, [], j, st, h, _, _ => by simpa only [newsE] using h
  | x :: r, b :: bs, j, st, h, h1, h2 => by
    simp only [newsE]
    obtain ⟨b', hb', q1, q2, q3, q4, q5⟩ := h1 0 x rfl
    simp only [List.getElem?_cons_zero, Option.some.injEq] at hb'
    subst hb'
    refine Inv.news r bs (j + 1) _ (h.more q1 q2 q3 q4 q5) (fun i y hy => ?_) (fun i k c hi hk hc hc' => ?_)
    · obtain ⟨b2, e0, e1, e2, e3, e4, e5⟩ := h1 (i + 1) y (by simpa using hy)
      have hne : b ≠ b2 := fun e => by
        have hl : i < r.length := (List.getElem?_eq_some_iff.1 hy).1
        have := h2 0 (i + 1) b (by simp) (by simp; omega) rfl (by rw [e0, e])
        omega
      refine ⟨b2, by simpa using e0, e1, e2, fun c hc => ?_, fun s hs => ?_, e5⟩
      · rcases mem_putNew hc with hc | hc
        · obtain ⟨j, v, hj, rfl⟩ := mem_newCells hc; exact hne
        · exact e3 c hc
      · rcases mem_putShape hs with rfl | hs
        · exact hne
        · exact e4 s hs
    · have := h2 (i + 1) (k + 1) c (by simp; omega) (by simp; omega) (by simpa using hc) (by simpa using hc')
      omega

theorem Inv.vecs {C : Nat → Nat → Prop} {B : Nat} {w : World} {st : St} {vs : List Vec} (h : Inv C B w st) (h1 : ∀ x ∈ vs, w.ownsRow 0 x.e x.size x.v x.n x.xs)
    (h2 : ∀ x ∈ vs, ∀ g, x.v.ownBlock = some g → B ≤ g ∧ (∀ c ∈ st.cells, c.b ≠ g) ∧ (∀ s ∈ st.shapes.l, s.1 ≠ g) ∧ ∀ y ∈ st.shapes.vecs, y.v.ownBlock ≠ some g) (h3 : vs.Pairwise (fun x y => ∀ g, x.v.ownBlock = some g → y.v.ownBlock ≠ some g)) : Inv C B w (vecsE vs st) := by
  obtain ⟨_, _, hc, hs⟩ := vecsE_ok (vs := vs) (st := st)
  refine ⟨by rw [hc]; exact h.cell, by rw [hc]; exact h.free, by rw [hc]; exact h.dist, by rw [hs]; exact h.shp, by rw [hc]; exact h.lt, by rw [hs]; exact h.slt, by rw [hc]; exact h.own, ?_, ?_, ?_, by rw [hs]; exact h.sfresh, by rw [hs]; exact h.sdist, by rw [hs]; exact h.ro⟩
  · rw [hs]
    intro x hx
    rcases List.mem_append.1 hx with hx | hx
    · exact h.vec x hx
    · exact h1 x hx
  · rw [hs, hc]
    intro x hx g hg
    rcases List.mem_append.1 hx with hx | hx
    · exact h.vsep x hx g hg
    · obtain ⟨q1, q2, q3, _⟩ := h2 x hx g hg
      exact ⟨q2, q3, fun _ => .inr q1⟩
  · rw [hs]
    exact List.pairwise_append.2 ⟨h.vdist, h3, fun x hx y hy g hg hg' => (h2 y hy g hg').2.2.2 x hx hg⟩

theorem letters_get {ν : Key → Nat} {key : Key} : ∀ {n j : Nat} {l : List Nat}, l.length = n → (∀ i, i < n → ν ((j + i) :: key) = l.getD i 0) → letters ν key n j = l
  | 0, j, l, hl, _ => by
    have : l = [] := List.length_eq_zero_iff.1 hl
    rw [this]; rfl
  | n + 1, j, [], hl, _ => by simp at hl
  | n + 1, j, x :: l, hl, h => by
    have h0 := h 0 (by omega)
    simp only [Nat.add_zero, List.getD_cons_zero] at h0
    simp only [letters, h0]
    rw [letters_get (l := l) (by simpa using hl) (fun i hi => by have := h (i + 1) (by omega); simp only [List.getD_cons_succ] at this; rw [← this]; congr 2; omega)]

/-- The letters of a call get their numbers. -/
theorem dom_puts {D : Dom} {key : Key} (hf : ∀ k, key <:+ k → D k = none) (l : List Nat) : ∃ D', Dom.Ext key D D' ∧ ∀ ν, Ag D' ν → Ag D ν ∧ letters ν key l.length 0 = l := by
  refine ⟨fun k => match D k with | some n => some n | none => match k with
    | i :: r => if r = key ∧ i < l.length then some (l.getD i 0) else none
    | [] => none, ⟨fun k n h => by simp only [h], fun k hk => ?_⟩, fun ν hν => ⟨fun k n h => hν k n (by simp only [h]), letters_get rfl fun i hi => ?_⟩⟩
  · cases D k with
    | some n => rfl
    | none =>
      cases k with
      | nil => rfl
      | cons i r =>
        simp only
        rw [if_neg]
        rintro ⟨rfl, _⟩
        exact hk (List.suffix_cons ..)
  · apply hν
    rw [Nat.zero_add]
    simp only [hf _ (List.suffix_cons i key), true_and, if_pos hi]

theorem owns_det {w : World} {e size : Nat} {v : Value} {n n' : Nat} {xs xs' : List Value} (h : w.ownsRow 0 e size v n xs) (h' : w.ownsRow 0 e size v n' xs') : n = n' ∧ xs = xs' := by
  rcases h.2 with ⟨h1, h2⟩ | ⟨g, cap, cur, h1, _, h3, _, _, _, h4⟩
  · rcases h'.2 with ⟨h5, h6⟩ | ⟨g', cap', cur', h5, _⟩
    · subst h2 h6
      refine ⟨rfl, ?_⟩
      have a := h.1
      have b := h'.1
      rw [Nat.zero_mul] at a b
      rw [List.length_eq_zero_iff.1 a, List.length_eq_zero_iff.1 b]
    · rw [h1] at h5; cases h5
  · rcases h'.2 with ⟨h5, _⟩ | ⟨g', cap', cur', h5, _, h6, _, _, _, h7⟩
    · rw [h1] at h5; cases h5
    · rw [h1] at h5
      simp only [Value.slice.injEq, Option.some.injEq, Addr.mk.injEq, and_true] at h5
      obtain ⟨rfl, rfl, rfl⟩ := h5
      rw [h3] at h6
      simp only [Option.some.injEq, Obj.cells.injEq, and_true] at h6
      subst h6
      exact ⟨rfl, h4.symm.trans h7⟩

theorem rows_old {l R : List Vec} {racc : List Nat} (hlen : R.length = racc.length) (h : ∀ (j : Nat) x i, R[j]? = some x → racc[j]? = some i → nth l i = some x ∨ nth l i = none ∧ x.v.ownBlock = none) : ∀ x ∈ R, ∀ g, x.v.ownBlock = some g → ∃ i ∈ racc, nth l i = some x := fun x hx g hg => by
  obtain ⟨j, hj⟩ := List.mem_iff_getElem?.1 hx
  have hlt : j < racc.length := by rw [← hlen]; exact (List.getElem?_eq_some_iff.1 hj).1
  refine ⟨racc[j], List.getElem_mem _, ?_⟩
  rcases h j x _ hj (List.getElem?_eq_getElem hlt) with h | ⟨_, h⟩
  · exact h
  · rw [hg] at h; cases h

theorem cp_sound {S : Strat} {C : Nat → Nat → Prop} {B : Nat} {key : Key} {w : World} {D : Dom} (hB : B ≤ w.heap.size) (hf : ∀ k, key <:+ k → D k = none) : ∀ (c : CP) (L : List Addr) (R : List Vec) (acc : (Key → Nat) → List Nat) (racc : List Nat) (st : (Key → Nat) → St) (r : (Key → Nat) → Value) (st' : (Key → Nat) → St),
    Fam C B D w st → (∀ ν, Ag D ν → ∀ a ∈ L, ∃ i ∈ acc ν, ∃ d, (st ν).cells[i]? = some d ∧ a = ⟨d.b, d.o, none⟩) →
    R.length = racc.length → (∀ ν, Ag D ν → ∀ (j : Nat) x i, R[j]? = some x → racc[j]? = some i → nth (st ν).shapes.vecs i = some x ∨ nth (st ν).shapes.vecs i = none ∧ x.v.ownBlock = none) →
    (∀ ν, Ag D ν → cpE S ν key c (acc ν) racc (st ν) = some (r ν, st' ν) ∧ (st' ν).Ok) →
    c.Pre w L R ∧ ∀ e w', c.Out w e w' R → ∃ v D', e = .returned v ∧ Dom.Ext key D D' ∧ (∀ ν, Ag D' ν → r ν = v) ∧ Fam C B D' w' st' ∧ Sub (fun k i => C k i ∨ B ≤ k) w w' := by
  intro c
  induction c with
  | fail => intro L R acc racc st r st' _ _ _ _ h; have := (h _ (Ag.some D)).1; cases this
  | load a k ih =>
    intro L R acc racc st r st' hfam hL hlen hR' h
    have hR : ∀ ν, Ag D ν → ∀ x ∈ R, ∀ g, x.v.ownBlock = some g → ∃ i ∈ racc, nth (st ν).shapes.vecs i = some x := fun ν hν => rows_old hlen (hR' ν hν)
    have key1 : ∀ ν, Ag D ν → ∃ i c s1 v, hasN i (acc ν) = false ∧ a = ⟨c.b, c.o, none⟩ ∧ (st ν).cells[i]? = some c ∧ s1.cells = (st ν).cells ∧ s1.shapes = (st ν).shapes ∧ w.cell? a = some v ∧ w.frozen? a = false ∧ cpE S ν key (k v) (i :: acc ν) racc s1 = some (r ν, st' ν) := fun ν hν => by
      obtain ⟨h1, h2⟩ := h ν hν
      simp only [cpE] at h1
      split at h1
      · cases h1
      · rename_i i c s1 hl
        split at h1
        · cases h1
        · rename_i hn
          split at h1
          · cases h1
          · rename_i v hv
            obtain ⟨_, q1, q2, q3, q4⟩ := look_ok hl (cp_mono _ _ _ _ _ _ h1 h2)
            have hm := List.mem_of_getElem? q2
            exact ⟨i, c, s1, v, hn, q1, q2, q3, q4, by rw [q1]; exact (hfam.inv ν hν).cell c hm v hv, by rw [q1]; exact (hfam.inv ν hν).free c hm, h1⟩
    obtain ⟨i0, c0, _, v0, hn0, ha0, hc0, _, _, hv0, hz0, _⟩ := key1 _ (Ag.some D)
    obtain ⟨g, hg⟩ := pick (D := D) ((0, st (fun _ => 0)) : Nat × St) (Q := fun ν z => z.2.cells = (st ν).cells ∧ z.2.shapes = (st ν).shapes ∧ (∃ c, a = ⟨c.b, c.o, none⟩ ∧ (st ν).cells[z.1]? = some c) ∧ cpE S ν key (k v0) (z.1 :: acc ν) racc z.2 = some (r ν, st' ν)) (fun ν hν => by
      obtain ⟨i, c, s1, v, _, q1, q2, q3, q4, q5, _, q7⟩ := key1 ν hν
      rw [hv0] at q5
      cases q5
      exact ⟨(i, s1), q3, q4, ⟨c, q1, q2⟩, q7⟩)
    obtain ⟨r1, r2⟩ := ih v0 (a :: L) R (fun ν => (g ν).1 :: acc ν) racc (fun ν => (g ν).2) r st' (hfam.of_cells fun ν hν => ⟨(hg ν hν).1, (hg ν hν).2.1⟩) (fun ν hν b hb => by
      obtain ⟨q1, _, ⟨c, q3, q4⟩, _⟩ := hg ν hν
      rcases List.mem_cons.1 hb with rfl | hb
      · exact ⟨_, List.mem_cons_self .., c, by simp only [q1]; exact q4, q3⟩
      · obtain ⟨i, hi, d, hd, e⟩ := hL ν hν b hb
        exact ⟨i, List.mem_cons_of_mem _ hi, d, by simp only [q1]; exact hd, e⟩) hlen (fun ν hν j x i hj hi => by rw [(hg ν hν).2.1]; exact hR' ν hν j x i hj hi) (fun ν hν => ⟨(hg ν hν).2.2.2, (h ν hν).2⟩)
    refine ⟨⟨fun hm => ?_, fun x hx hg' => ?_, v0, hv0, hz0, r1⟩, fun e w' ⟨v, hv, ho⟩ => ?_⟩
    · obtain ⟨i, hi, d, hd, e⟩ := hL _ (Ag.some D) a hm
      rw [ha0] at e
      simp only [Addr.mk.injEq, and_true] at e
      have := idx_one (hfam.inv _ (Ag.some D)).dist hc0 hd e.1 e.2
      subst this
      exact hasN_mem hn0 hi
    · obtain ⟨i, _, hx'⟩ := hR _ (Ag.some D) x hx _ hg'
      rw [nth_eq] at hx'
      refine ((hfam.inv _ (Ag.some D)).vsep x (List.mem_of_getElem? hx') _ hg').1 c0 (List.mem_of_getElem? hc0) ?_
      rw [ha0]
    · rw [hv0] at hv
      cases hv
      exact r2 e w' ho
  | row v e size k ih =>
    intro L R acc racc st r st' hfam hL hlen hR' h
    have hR : ∀ ν, Ag D ν → ∀ x ∈ R, ∀ g, x.v.ownBlock = some g → ∃ i ∈ racc, nth (st ν).shapes.vecs i = some x := fun ν hν => rows_old hlen (hR' ν hν)
    have hu := hfam.uni
    have hI0 := hfam.inv _ (Ag.some D)
    -- which slice it is
    cases hv : S.vec (racc.length :: key) (st (fun k => (D k).getD 0)).shapes.vecs (blkOf v) (st (fun k => (D k).getD 0)).shapes.todo with
    | none => have := (h _ (Ag.some D)).1; simp only [cpE, hv] at this; cases this
    | some it =>
      obtain ⟨i, todo⟩ := it
      have same : ∀ ν, Ag D ν → S.vec (racc.length :: key) (st ν).shapes.vecs (blkOf v) (st ν).shapes.todo = some (i, todo) := fun ν hν => by rw [(hu ν _ hν (Ag.some D)).2]; exact hv
      have step : ∀ (n : Nat) (xs : List Value) (y : Value), (∀ ν, Ag D ν → cpE S ν key (k n xs) (acc ν) (i :: racc) { st ν with eqs := (v, y) :: (st ν).eqs, shapes := { (st ν).shapes with todo := todo } } = some (r ν, st' ν)) → v = y ∧ (w.ownsRow 0 e size v n xs → (nth (st (fun k => (D k).getD 0)).shapes.vecs i = some ⟨e, size, v, n, xs⟩ ∨ nth (st (fun k => (D k).getD 0)).shapes.vecs i = none ∧ v.ownBlock = none) → hasN i racc = false → 
          (CP.row v e size k).Pre w L R ∧ ∀ e' w', (CP.row v e size k).Out w e' w' R → ∃ v D', e' = .returned v ∧ Dom.Ext key D D' ∧ (∀ ν, Ag D' ν → r ν = v) ∧ Fam C B D' w' st' ∧ Sub (fun k i => C k i ∨ B ≤ k) w w') := fun n xs y hc => by
        have hk := cp_mono _ _ _ _ _ _ (hc _ (Ag.some D)) (h _ (Ag.some D)).2
        have hvy : v = y := hk.eqs _ (List.mem_cons_self ..)
        refine ⟨hvy, fun hrow hblk0 hn0 => ?_⟩
        have hblk : ∀ g, v.ownBlock = some g → (nth (st (fun k => (D k).getD 0)).shapes.vecs i = some ⟨e, size, v, n, xs⟩ ∧ hasN i racc = false) := fun g hg => by
          rcases hblk0 with h | ⟨_, h⟩
          · exact ⟨h, hn0⟩
          · rw [hg] at h; cases h
        have hpos : ∀ ν, Ag D ν → nth (st ν).shapes.vecs i = some ⟨e, size, v, n, xs⟩ ∨ nth (st ν).shapes.vecs i = none ∧ v.ownBlock = none := fun ν hν => by rw [(hu ν _ hν (Ag.some D)).2]; exact hblk0
        obtain ⟨r1, r2⟩ := ih n xs L (⟨e, size, v, n, xs⟩ :: R) acc (i :: racc) (fun ν => { st ν with eqs := (v, y) :: (st ν).eqs, shapes := { (st ν).shapes with todo := todo } }) r st'
          ⟨fun ν hν => by
            have hi := hfam.inv ν hν
            exact ⟨hi.cell, hi.free, hi.dist, hi.shp, hi.lt, hi.slt, hi.own, hi.vec, hi.vsep, hi.vdist, hi.sfresh, hi.sdist, hi.ro⟩, fun ν ν' hν hν' => by
            obtain ⟨u1, u2⟩ := hu ν ν' hν hν'
            simp only [u1, u2, and_self]⟩ hL (by simp [hlen]) (fun ν hν j x i' hj hi' => by
            cases j with
            | zero =>
              simp only [List.getElem?_cons_zero, Option.some.injEq] at hj hi'
              subst hj hi'
              exact hpos ν hν
            | succ j =>
              simp only [List.getElem?_cons_succ] at hj hi'
              exact hR' ν hν j x i' hj hi') (fun ν hν => ⟨hc ν hν, (h ν hν).2⟩)
        refine ⟨⟨n, xs, hrow, fun g hg => ⟨fun a ha => ?_, fun x hx hg' => ?_⟩, r1⟩, fun e' w' ⟨n', xs', hrow', ho⟩ => ?_⟩
        · obtain ⟨i', _, d, hd, e1⟩ := hL _ (Ag.some D) a ha
          have h1 := (hblk g hg).1
          rw [nth_eq] at h1
          rw [e1]
          exact (hI0.vsep _ (List.mem_of_getElem? h1) g hg).1 d (List.mem_of_getElem? hd)
        · obtain ⟨i', hi', e1⟩ := hR _ (Ag.some D) x hx g hg'
          obtain ⟨h1, h2⟩ := hblk g hg
          rw [nth_eq] at h1 e1
          have hne : i ≠ i' := fun hh => hasN_mem h2 (hh ▸ hi')
          exact pair_ne hI0.vdist h1 e1 hne g hg hg'
        · obtain ⟨en, ex⟩ := owns_det hrow hrow'
          subst en ex
          exact r2 e' w' ho
      cases hx : nth (st (fun k => (D k).getD 0)).shapes.vecs i with
      | none =>
        have hn0 : hasN i racc = false := by
          have h1 := (h _ (Ag.some D)).1
          simp only [cpE, hv, hx] at h1
          split at h1
          · cases h1
          · rename_i hn; exact hn
        have hall : ∀ ν, Ag D ν → cpE S ν key (k 0 []) (acc ν) (i :: racc) { st ν with eqs := (v, .slice none 0 0) :: (st ν).eqs, shapes := { (st ν).shapes with todo := todo } } = some (r ν, st' ν) := fun ν hν => by
          have h1 := (h ν hν).1
          simp only [cpE, same ν hν] at h1
          have hx' : nth (st ν).shapes.vecs i = none := by rw [(hu ν _ hν (Ag.some D)).2]; exact hx
          simp only [hx', hn0] at h1
          exact h1
        obtain ⟨s1, s2⟩ := step 0 [] _ hall
        exact s2 (by rw [s1]; exact World.ownsRow_nil ..) (.inr ⟨hx, by rw [s1]; rfl⟩) hn0
      | some x =>
        have hall : hasN i racc = false ∧ (Nat.beq x.e e && Nat.beq x.size size) = true ∧ ∀ ν, Ag D ν → cpE S ν key (k x.n x.xs) (acc ν) (i :: racc) { st ν with eqs := (v, x.v) :: (st ν).eqs, shapes := { (st ν).shapes with todo := todo } } = some (r ν, st' ν) := by
          have all : ∀ ν, Ag D ν → hasN i racc = false ∧ (Nat.beq x.e e && Nat.beq x.size size) = true ∧ cpE S ν key (k x.n x.xs) (acc ν) (i :: racc) { st ν with eqs := (v, x.v) :: (st ν).eqs, shapes := { (st ν).shapes with todo := todo } } = some (r ν, st' ν) := fun ν hν => by
            have h1 := (h ν hν).1
            simp only [cpE, same ν hν] at h1
            have hx' : nth (st ν).shapes.vecs i = some x := by rw [(hu ν _ hν (Ag.some D)).2]; exact hx
            simp only [hx'] at h1
            split at h1
            · cases h1
            · rename_i hn
              split at h1
              · rename_i hb; exact ⟨hn, hb, h1⟩
              · cases h1
          exact ⟨(all _ (Ag.some D)).1, (all _ (Ag.some D)).2.1, fun ν hν => (all ν hν).2.2⟩
        obtain ⟨hn, hb, hc⟩ := hall
        simp only [Bool.and_eq_true, Nat.beq_eq] at hb
        obtain ⟨b1, b2⟩ := hb
        obtain ⟨xe, xsz, xv, xn, xxs⟩ := x
        simp only at b1 b2 hc
        subst b1 b2
        obtain ⟨s1, s2⟩ := step xn xxs xv hc
        subst s1
        have hm : (⟨xe, xsz, v, xn, xxs⟩ : Vec) ∈ (st (fun k => (D k).getD 0)).shapes.vecs := by rw [nth_eq] at hx; exact List.mem_of_getElem? hx
        exact s2 (hI0.vec _ hm) (.inl hx) hn
  | test b k ih =>
    intro L R acc racc st r st' hfam hL hlen hR' h
    have key1 : ∀ ν, Ag D ν → ∃ s1, s1.cells = (st ν).cells ∧ s1.shapes = (st ν).shapes ∧ cpE S ν key (k b) (acc ν) racc s1 = some (r ν, st' ν) := fun ν hν => by
      obtain ⟨h1, h2⟩ := h ν hν
      simp only [cpE] at h1
      split at h1
      · cases h1
      · rename_i g s1 hg
        obtain ⟨_, q1, q2, q3⟩ := guess_ok hg (cp_mono _ _ _ _ _ _ h1 h2)
        subst q1
        exact ⟨s1, q2, q3, h1⟩
    obtain ⟨g, hg⟩ := pick (D := D) (st (fun _ => 0)) key1
    exact ih b L R acc racc g r st' (hfam.of_cells fun ν hν => ⟨(hg ν hν).1, (hg ν hν).2.1⟩) (fun ν hν a ha => by
      obtain ⟨i, hi, d, hd, e⟩ := hL ν hν a ha
      exact ⟨i, hi, d, by rw [(hg ν hν).1]; exact hd, e⟩) hlen (fun ν hν j x i hj hi => by rw [(hg ν hν).2.1]; exact hR' ν hν j x i hj hi) (fun ν hν => ⟨(hg ν hν).2.2, (h ν hν).2⟩)
  | done n o =>
    intro L R acc racc st r st' hfam hL hlen hR' h
    have hR : ∀ ν, Ag D ν → ∀ x ∈ R, ∀ g, x.v.ownBlock = some g → ∃ i ∈ racc, nth (st ν).shapes.vecs i = some x := fun ν hν => rows_old hlen (hR' ν hν)
    refine ⟨trivial, fun e w' ho => ?_⟩
    obtain ⟨l, rfl, rfl, hm⟩ := ho
    obtain ⟨D', hx, hlt⟩ := dom_puts (D := D) hf l
    have key1 : ∀ ν, Ag D' ν → ∃ s1, r ν = (o l).res ∧ storesE S (o l).st (st ν) = some s1 ∧ s1.Ok ∧ st' ν = vecsE (o l).vecs (newsE key (o l).news l 0 (rowsE (o l).sets racc s1)) := fun ν hν => by
      obtain ⟨g1, g2⟩ := hlt ν hν
      obtain ⟨h1, h2⟩ := h ν g1
      simp only [cpE, g2] at h1
      split at h1
      · cases h1
      · rename_i s1 hs
        simp only [Option.some.injEq, Prod.mk.injEq] at h1
        obtain ⟨q1, q2⟩ := h1
        refine ⟨s1, q1.symm, hs, ⟨?_, ?_⟩, q2.symm⟩
        · have := h2.eqs; rw [← q2, vecsE_ok.1, (news_same _ _ _ _).1, rows_same.1] at this; exact this
        · have := h2.conds; rw [← q2, vecsE_ok.2.1, (news_same _ _ _ _).2.1, rows_same.2.1] at this; exact this
    have hsub : Sub (fun k i => C k i ∨ B ≤ k) w w' := hm.sub.mono fun k i hh => by
      obtain ⟨s1, _, hs, hk, _⟩ := key1 _ (Ag.some D')
      have hi := hfam.inv _ ((hlt _ (Ag.some D')).1)
      rcases hh with ⟨x, hx, e1, e2⟩ | ⟨x, hx, e1⟩
      rotate_left
      · obtain ⟨i', _, hx'⟩ := hR _ ((hlt _ (Ag.some D')).1) x hx k e1
        rw [nth_eq] at hx'
        exact (hi.vsep x (List.mem_of_getElem? hx') k e1).2.2 i
      obtain ⟨d, hd, f1, f2⟩ := (stores_ok hs hk hi.dist).2.2.1 x hx
      have := hi.own d hd
      rw [f1, f2, e1, e2] at this
      exact this
    refine ⟨_, D', rfl, hx, fun ν hν => (key1 ν hν).choose_spec.1, ⟨fun ν hν => ?_, fun ν ν' hν hν' => ?_⟩, hsub⟩
    · obtain ⟨s1, _, hs, hk, e⟩ := key1 ν hν
      rw [e]
      have hi := hfam.inv ν (hlt ν hν).1
      obtain ⟨a1, a2, a3, a4⟩ := stores_ok hs hk hi.dist
      -- the slices behind the call
      have hlR := hR' ν (hlt ν hν).1
      have far1 : ∀ x ∈ st ν |>.shapes.vecs, (∀ y ∈ R, ∀ g, x.v.ownBlock = some g → y.v.ownBlock ≠ some g) → w'.ownsRow 0 x.e x.size x.v x.n x.xs := fun x hx hn => by
        refine (hi.vec x hx).far (fun g hg => hm.sub.far (heap_lt_of_own (hi.vec x hx) hg) (fun i hh => ?_))
        rcases hh with ⟨y, hy, c1, _⟩ | ⟨y, hy, c1⟩
        · obtain ⟨d, hd, f1, _⟩ := a3 y hy
          exact (hi.vsep x hx g hg).1 d hd (f1.trans c1)
        · exact hn y hy g hg c1
      have nilv : ∀ x ∈ st ν |>.shapes.vecs, x.v.ownBlock = none → w'.ownsRow 0 x.e x.size x.v x.n x.xs := fun x hx hn => far1 x hx (fun y _ g hg => by rw [hn] at hg; cases hg)
      have one : ∀ (i : Nat) x, (st ν).shapes.vecs[i]? = some x → posOf i racc 0 = none → w'.ownsRow 0 x.e x.size x.v x.n x.xs := fun i x hx hp => by
        refine far1 x (List.mem_of_getElem? hx) (fun y hy g hg hg' => ?_)
        obtain ⟨i', hi', hy'⟩ := hR ν (hlt ν hν).1 y hy g hg'
        rw [nth_eq] at hy'
        by_cases e1 : i = i'
        · subst e1
          exact posOf_none hp hi'
        · exact pair_ne hi.vdist hx hy' e1 g hg hg'
      have hvec : ∀ y ∈ (rowsE (o l).sets racc s1).shapes.vecs, (∃ x ∈ (st ν).shapes.vecs, y.v = x.v) ∧ w'.ownsRow 0 y.e y.size y.v y.n y.xs := fun y hy => by
        have at1 : ∀ (i : Nat) x, (st ν).shapes.vecs[i]? = some x → ∀ j, posOf i racc 0 = some j → w'.ownsRow 0 x.e x.size x.v x.n (rowNow (o l).sets j x.xs) := fun i x hx j hj => by
          obtain ⟨_, h2⟩ := posOf_get hj
          rw [Nat.sub_zero] at h2
          have hjl : j < R.length := by rw [hlen]; exact (List.getElem?_eq_some_iff.1 h2).1
          have h3 := hlR j R[j] i (List.getElem?_eq_getElem hjl) h2
          rw [nth_eq, hx] at h3
          rcases h3 with h3 | ⟨h3, _⟩
          · simp only [Option.some.injEq] at h3
            have := hm.rows _ (rowsNow_mem (sets := (o l).sets) (j := 0) (List.getElem?_eq_getElem hjl))
            rw [← h3, Nat.zero_add] at this
            exact this
          · cases h3
        rw [rows_same.2.2.2, a1] at hy
        cases hs0 : (o l).sets with
        | nil =>
          rw [hs0] at hy
          simp only at hy
          obtain ⟨i, hiy⟩ := List.mem_iff_getElem?.1 hy
          refine ⟨⟨y, hy, rfl⟩, ?_⟩
          cases hp : posOf i racc 0 with
          | none => exact one i y hiy hp
          | some j =>
            have := at1 i y hiy j hp
            rw [hs0] at this
            exact this
        | cons z0 zr =>
          rw [hs0] at hy
          simp only at hy
          rw [← hs0] at hy
          obtain ⟨i, hiy⟩ := List.mem_iff_getElem?.1 hy
          obtain ⟨x, hx, e⟩ := setRows_get hiy
          rw [Nat.zero_add] at e
          cases hp : posOf i racc 0 with
          | none =>
            rw [hp] at e
            simp only at e
            subst e
            exact ⟨⟨y, List.mem_of_getElem? hx, rfl⟩, one i y hx hp⟩
          | some j =>
            rw [hp] at e
            simp only at e
            subst e
            exact ⟨⟨x, List.mem_of_getElem? hx, rfl⟩, at1 i x hx j hp⟩
      have hvd : (rowsE (o l).sets racc s1).shapes.vecs.map Vec.v = (st ν).shapes.vecs.map Vec.v := by
        rw [rows_same.2.2.2, a1]
        cases (o l).sets with
        | nil => rfl
        | cons z0 zr => exact setRows_v
      have i1 : Inv C B w' (rowsE (o l).sets racc s1) := hi.move hm.sub hsub (by have e1 := congrArg Shapes.ros (rows_same (sets := (o l).sets) (racc := racc) (st := s1)).2.2.2; have e2 := congrArg Shapes.ros a1; exact e1.trans e2) (by have e1 := congrArg Shapes.l (rows_same (sets := (o l).sets) (racc := racc) (st := s1)).2.2.2; have e2 := congrArg Shapes.l a1; exact e1.trans e2) (by rw [rows_same.2.2.1]; exact a2) (fun c hc => by
        rw [rows_same.2.2.1] at hc
        exact ⟨(a4 c hc).1, fun v hv => by
          rcases (a4 c hc).2 with ⟨b1, b2⟩ | ⟨x, b1, b2, b3, b4⟩
          · refine hm.sub.cell (hi.cell c b1 v hv) (fun hh => ?_)
            rcases hh with ⟨x, hx, c1, c2⟩ | ⟨x, hx, c1⟩
            · exact b2 x hx ⟨c1, c2⟩
            · obtain ⟨i', _, hx'⟩ := hR ν (hlt ν hν).1 x hx _ c1
              rw [nth_eq] at hx'
              exact (hi.vsep x (List.mem_of_getElem? hx') _ c1).1 c b1 rfl
          · rw [hv] at b4
            cases b4
            rw [← b2, ← b3]
            exact hm.st x b1⟩) (fun y hy => (hvec y hy).1) (dist_v hvd hi.vdist) (fun y hy => (hvec y hy).2)
      have vo : ∀ y ∈ (rowsE (o l).sets racc s1).shapes.vecs, ∀ g, y.v.ownBlock = some g → g < w.heap.size := fun y hy g hg => by
        obtain ⟨x, hx, e⟩ := (hvec y hy).1
        rw [e] at hg
        exact heap_lt_of_own (hi.vec x hx) hg
      have old : ∀ c ∈ s1.cells, c.b < w.heap.size := fun c hc => by
        obtain ⟨d, hd, f1, _⟩ := (a4 c hc).1
        rw [← f1]
        exact hi.lt d hd
      have olds : ∀ s ∈ s1.shapes.l, s.1 < w.heap.size := fun s hs => hi.slt s (by rw [← a1]; exact hs)
      have hn := Inv.news (key := key) (o l).news l 0 _ i1 (fun i x hx => by
        obtain ⟨b, q1, q2, q3⟩ := hm.news i x hx
        exact ⟨b, q1, q2, Nat.le_trans hB q3, fun c hc => by rw [rows_same.2.2.1] at hc; have := old c hc; omega, fun s hs => by rw [rows_same.2.2.2] at hs; have := olds s hs; omega, fun y hy hg => by have := vo y hy b hg; omega⟩) hm.nodup
      have cells_new : ∀ (ns : List (TypeId × List Value)) (bs : List Nat) (j : Nat) (s : St), (∀ c ∈ (newsE key ns bs j s).cells, c ∈ s.cells ∨ ∃ i, i < ns.length ∧ bs[i]? = some c.b) ∧ (∀ c ∈ (newsE key ns bs j s).shapes.l, c ∈ s.shapes.l ∨ ∃ i, i < ns.length ∧ bs[i]? = some c.1) := by
        intro ns
        induction ns with
        | nil => intro bs j s; simp only [newsE]; exact ⟨fun c hc => .inl hc, fun c hc => .inl hc⟩
        | cons x ns ih =>
          intro bs j s
          cases bs with
          | nil => simp only [newsE]; exact ⟨fun c hc => .inl hc, fun c hc => .inl hc⟩
          | cons b bs =>
            simp only [newsE]
            obtain ⟨u1, u2⟩ := ih bs (j + 1) (addNew b (j :: key) x.1 x.2 s)
            refine ⟨fun c hc => ?_, fun c hc => ?_⟩
            · rcases u1 c hc with hc | ⟨i, hi, hb⟩
              · rcases mem_putNew hc with hc | hc
                · obtain ⟨i, v, hi, rfl⟩ := mem_newCells hc
                  exact .inr ⟨0, by simp, rfl⟩
                · exact .inl hc
              · exact .inr ⟨i + 1, by simp; omega, by simpa using hb⟩
            · rcases u2 c hc with hc | ⟨i, hi, hb⟩
              · rcases mem_putShape hc with rfl | hc
                · exact .inr ⟨0, by simp, rfl⟩
                · exact .inl hc
              · exact .inr ⟨i + 1, by simp; omega, by simpa using hb⟩
      obtain ⟨u1, u2⟩ := cells_new (o l).news l 0 (rowsE (o l).sets racc s1)
      rw [rows_same.2.2.1] at u1
      rw [rows_same.2.2.2] at u2
      refine hn.vecs hm.vec (fun x hx g hg => ?_) hm.vdist
      obtain ⟨v1, v2⟩ := hm.vnew x hx g hg
      refine ⟨Nat.le_trans hB v1, fun c hc e => ?_, fun c hc e => ?_, fun y hy hy' => ?_⟩
      · rcases u1 c hc with hc | ⟨i, hi, hb⟩
        · have := old c hc; omega
        · exact v2 i hi (by rw [hb, e])
      · rcases u2 c hc with hc | ⟨i, hi, hb⟩
        · have := olds c hc; omega
        · exact v2 i hi (by rw [hb, e])
      · rw [(news_same _ _ _ _).2.2.1] at hy
        have := vo y hy g hy'
        omega
    · obtain ⟨s1, _, hs, hk, e⟩ := key1 ν hν
      obtain ⟨s1', _, hs', hk', e'⟩ := key1 ν' hν'
      obtain ⟨u1, u2⟩ := hfam.uni ν ν' (hlt ν hν).1 (hlt ν' hν').1
      have hi := hfam.inv ν (hlt ν hν).1
      have hi' := hfam.inv ν' (hlt ν' hν').1
      have c1 := stores_uni hs hs' hk hk' u1 hi.dist
      have c0 : s1.shapes = s1'.shapes := by rw [(stores_ok hs hk hi.dist).1, (stores_ok hs' hk' hi'.dist).1, u2]
      have same : ∀ (ns : List (TypeId × List Value)) (bs : List Nat) (j : Nat) (s s' : St), s.cells = s'.cells → s.shapes = s'.shapes → (newsE key ns bs j s).cells = (newsE key ns bs j s').cells ∧ (newsE key ns bs j s).shapes = (newsE key ns bs j s').shapes := by
        intro ns
        induction ns with
        | nil => intro bs j s s' h1 h2; simp only [newsE]; exact ⟨h1, h2⟩
        | cons x ns ih =>
          intro bs j s s' h1 h2
          cases bs with
          | nil => simp only [newsE]; exact ⟨h1, h2⟩
          | cons b bs => simp only [newsE]; exact ih _ _ _ _ (by simp only [addNew, h1]) (by simp only [addNew, h2])
      have c3 : (rowsE (o l).sets racc s1).cells = (rowsE (o l).sets racc s1').cells := by rw [rows_same.2.2.1, rows_same.2.2.1, c1]
      have c2 : (rowsE (o l).sets racc s1).shapes = (rowsE (o l).sets racc s1').shapes := by rw [rows_same.2.2.2, rows_same.2.2.2, c0]
      obtain ⟨q1, q2⟩ := same (o l).news l 0 _ _ c3 c2
      rw [e, e', vecsE_ok.2.2.1, vecsE_ok.2.2.1, vecsE_ok.2.2.2, vecsE_ok.2.2.2, q1, q2]
      exact ⟨rfl, rfl⟩

theorem findC_mem {f : FuncId} {p : Array Value → CP} : ∀ {l : List Contract}, findC f l = some p → ⟨f, p⟩ ∈ l
  | c :: r, h => by
    simp only [findC] at h
    split at h
    · rename_i hb
      have := Nat.eq_of_beq_eq_true hb
      subst this
      cases h
      exact List.mem_cons_self ..
    · exact List.mem_cons_of_mem _ (findC_mem h)

theorem absOf_ok {P : Program} {cs : List Contract} (h : ∀ c ∈ cs, c.Ok P) (S : Strat) : CallOk P (absOf cs S).run := by
  refine ⟨fun ν key f args st r st' he hk => ?_, fun C B key f args w D st r st' hB hf hfam he => ?_⟩
  · simp only [absOf] at he
    split at he
    · cases he
    · exact cp_mono _ _ _ _ _ _ he hk
  · have h0 := (he _ (Ag.some D)).1
    simp only [absOf] at h0 he
    cases hc : findC f cs with
    | none => rw [hc] at h0; cases h0
    | some p =>
      rw [hc] at he
      simp only at he
      obtain ⟨h1, h2⟩ := cp_sound hB hf (p args) [] [] (fun _ => []) [] st r st' hfam (fun _ _ a ha => by cases ha) rfl (fun _ _ j x i hj _ => by simp at hj) he
      exact (h _ (findC_mem hc) args w h1).mono h2
end Go.Proofs.YtmihblocomnfjaaDoor.Sy
