/- A walk that the kernel carries out: append and make over slices whose length need not be known. -/
import Derived.Test.YtmihblocomnfjaaDoorSyOp
import Derived.Deep.AppendLies
import Derived.Laws.OwnMore
set_option linter.unusedSimpArgs false
set_option linter.unusedVariables false
namespace Go.Proofs.YtmihblocomnfjaaDoor.Sy
open Go

section
variable (P : Program)

/-- Cells that are known, one behind the other. -/
def readsE (S : Strat) (b off : Nat) : Nat → Nat → St → Option (List Value × St)
  | 0, _, st => some ([], st)
  | k + 1, j, st => match st.look S ⟨b, off + j, none⟩ with
    | none => none
    | some (_, c, st') => match c.v with
      | none => none
      | some v => match oneC v with
        | false => none
        | true => match readsE S b off k (j + 1) st' with
          | none => none
          | some (vs, st2) => some (v :: vs, st2)

def elemOf (t : TypeId) : Option (TypeId × TypeInfo × Value) :=
  match P.underlying t with
  | some (.slice e) => match P.info? e with
    | some i => match i.zero with
      | some z => match Nat.beq z.cells.size i.size && Nat.blt 0 i.size with
        | true => some (e, i, z)
        | false => none
      | none => none
    | none => none
  | _ => none

def blkOf : Value → Option Nat
  | .slice (some a) _ _ => some a.block
  | _ => none

def addV : Nat → Nat → Nat
  | 0, m => m
  | n + 1, m => n + 1 + m
theorem addV_eq (n m : Nat) : addV n m = n + m := by cases n <;> simp [addV]

/-- An empty slice without room, nil or not. -/
def nilOr : Value → Value
  | .slice (some a) _ _ => .slice (some a) 0 0
  | _ => .slice none 0 0
theorem nilOr_cases {s : Value} (h : s = nilOr s) : s = .slice none 0 0 ∨ ∃ a, s = .slice (some a) 0 0 := by
  unfold nilOr at h
  split at h
  · exact .inr ⟨_, h⟩
  · exact .inl h
/-- 'm' more elements behind the slice 'x' (a slice that the call owns: it becomes another). -/
def growE (S : Strat) (ν : Key → Nat) (key : Key) (e : TypeId) (i : TypeInfo) (s : Value) (m : Nat) (news : List Value) (st : St) : Option (Value × St) :=
  match S.vec key st.shapes.vecs (blkOf s) st.shapes.todo with
  | none => none
  | some (idx, todo) => match st.shapes.vecs[idx]? with
    | some x => match Nat.beq x.e e && Nat.beq x.size i.size with
      | false => none
      | true => match st.guess S (decide (addV x.n m ≤ maxLen)) with
        | some (true, s1) => match s1.guess S (decide (addV x.n m * i.bytes ≤ 140737488355328)) with
          | some (true, s2) =>
            let v' : Value := .slice (some ⟨ν (0 :: key), 0, none⟩) (addV x.n m) (ν (1 :: key))
            some (v', { s2 with eqs := (s, x.v) :: s2.eqs, shapes := { s2.shapes with todo := todo, vecs := setVec { x with v := v', n := addV x.n m, xs := x.xs ++ news } s2.shapes.vecs idx } })
          | _ => none
        | _ => none
    | none => match st.guess S (decide (m ≤ maxLen)) with
      | some (true, s1) => match s1.guess S (decide (m * i.bytes ≤ 140737488355328)) with
        | some (true, s2) =>
          let v' : Value := .slice (some ⟨ν (0 :: key), 0, none⟩) m (ν (1 :: key))
          some (v', { s2 with eqs := (s, nilOr s) :: s2.eqs, shapes := { s2.shapes with todo := todo, vecs := s2.shapes.vecs ++ [⟨e, i.size, v', m, news⟩] } })
        | _ => none
      | _ => none

/-- What is appended: cells that are known; or a slice whole. -/
def srcE (S : Strat) (ad : Addr) (m size : Nat) (st : St) : Option (List Value × St) :=
  match S.src st.shapes.vecs st.shapes.ros ad.block st.tr with
  | none => match ad with
    | ⟨b, off, none⟩ => readsE S b off (m * size) 0 st
    | _ => none
  | some (i, tr) => match nth st.shapes.vecs i with
    | some y => match y.v with
      | .slice (some a') _ _ => match St.guess S { st with tr := tr } (y.xs.all oneC) with
        | some (true, s1) => match s1.guess S (Nat.beq y.xs.length (m * size)) with
          | some (true, s2) => some (y.xs, { s2 with eqs := (.pointer (some ad), addr a'.block 0) :: s2.eqs })
          | _ => none
        | _ => none
      | _ => none
    | none => match nth st.shapes.ros (Nat.sub i 1000) with
      | some r => match St.guess S { st with tr := tr } (r.xs.all oneC) with
        | some (true, s1) => match s1.guess S (Nat.beq r.xs.length (m * size)) with
          | some (true, s2) => some (r.xs, { s2 with eqs := (.pointer (some ad), addr r.a.block r.a.off) :: s2.eqs })
          | _ => none
        | _ => none
      | none => none

/-- Nothing is appended. -/
def sameE (S : Strat) (key : Key) (e size : Nat) (s : Value) (st : St) : Option (Value × St) :=
  match S.vec key st.shapes.vecs (blkOf s) st.shapes.todo with
  | none => none
  | some (idx, todo) => match nth st.shapes.vecs idx with
    | some x => match Nat.beq x.e e && Nat.beq x.size size with
      | true => some (s, { st with eqs := (s, x.v) :: st.eqs, shapes := { st.shapes with todo := todo } })
      | false => none
    | none => some (s, { st with eqs := (s, .slice none 0 0) :: st.eqs, shapes := { st.shapes with todo := todo } })

def isVec (S : Strat) (o : Oper) : Bool :=
  match o.op with
  | .call c => match c.callee with
    | .builtin .append => true
    | _ => false
  | .makeSlice t _ _ => S.big t
  | _ => false

def vecE (S : Strat) (ν : Key → Nat) (key : Key) (eval : Operand → Value) (o : Oper) (st : St) : Option (Value × St) :=
  match o.op with
  | .call c => match c.callee, c.args.toList, c.argTypes.toList with
    | .builtin .append, [s, x], [t, t'] => match Nat.beq t t', elemOf P t, eval x with
      | true, some (e, i, _), .slice sa m _ => match st.guess S (Nat.blt 0 m) with
        | none => none
        | some (true, s0) => match sa with
          | none => none
          | some ad => match srcE S ad m i.size s0 with
            | none => none
            | some (news, s1) => growE S ν key e i (eval s) m news s1
        | some (false, s0) => sameE S key e i.size (eval s) s0
      | _, _, _ => none
    | _, _, _ => none
  | .makeSlice t len cap => match elemOf P t, eval len, eval cap with
    | some (e, i, z), .int _ l, .int _ c => match st.guess S (decide (0 ≤ l)) with
      | some (true, s1) => match s1.guess S (decide (i.bytes * l.toNat ≤ 281474976710656)) with
        | some (true, s2) => match s2.guess S (decide (l.toNat ≤ maxLen)) with
          | some (true, s3) =>
            let v' : Value := .slice (some ⟨ν (0 :: key), 0, none⟩) l.toNat l.toNat
            some (v', { s3 with eqs := (.int .i64 l, .int .i64 c) :: s3.eqs, shapes := { s3.shapes with vecs := s3.shapes.vecs ++ [⟨e, i.size, v', l.toNat, (madeCells z.cells (l.toNat * i.size)).toList⟩] } })
          | _ => none
        | _ => none
      | _ => none
    | _, _, _ => none
  | _ => none

variable {P}

theorem elemOf_ok {t e : TypeId} {i : TypeInfo} {z : Value} (h : elemOf P t = some (e, i, z)) : P.underlying t = some (.slice e) ∧ P.info? e = some i ∧ i.zero = some z ∧ z.cells.size = i.size ∧ 0 < i.size := by
  unfold elemOf at h
  split at h
  · rename_i e' hu
    split at h
    · rename_i i' hi
      split at h
      · rename_i z' hz
        split at h
        · rename_i hb
          simp only [Option.some.injEq, Prod.mk.injEq] at h
          obtain ⟨rfl, rfl, rfl⟩ := h
          simp only [Bool.and_eq_true, Nat.beq_eq, blt_lt] at hb
          exact ⟨hu, hi, hz, hb.1, hb.2⟩
        · cases h
      · cases h
    · cases h
  · cases h

theorem oneC_eq (v : Value) : oneC v = v.oneCell' := by cases v <;> rfl

theorem reads_ok {S : Strat} {b off : Nat} : ∀ {k j : Nat} {st : St} {vs : List Value} {st' : St}, readsE S b off k j st = some (vs, st') → st'.Ok →
    st.Ok ∧ st'.cells = st.cells ∧ st'.shapes = st.shapes ∧ vs.length = k ∧ (∀ u ∈ vs, u.oneCell' = true) ∧ ∀ i u, vs[i]? = some u → ∃ c ∈ st.cells, c.b = b ∧ c.o = off + (j + i) ∧ c.v = some u
  | 0, j, st, vs, st', h, hk => by
    simp only [readsE, Option.some.injEq, Prod.mk.injEq] at h
    obtain ⟨rfl, rfl⟩ := h
    exact ⟨hk, rfl, rfl, rfl, fun u hu => (by cases hu), fun i u hu => (by simp at hu)⟩
  | k + 1, j, st, vs, st', h, hk => by
    simp only [readsE] at h
    split at h
    · cases h
    · rename_i idx c s1 hl
      split at h
      · cases h
      · rename_i v hv
        split at h
        · cases h
        · rename_i hone
          split at h
          · cases h
          · rename_i vs2 s2 hr
            simp only [Option.some.injEq, Prod.mk.injEq] at h
            obtain ⟨rfl, rfl⟩ := h
            obtain ⟨g1, g2, g3, g4, g5, g6⟩ := reads_ok hr hk
            obtain ⟨l1, l2, l3, l4, l5⟩ := look_ok hl g1
            simp only [Addr.mk.injEq, and_true] at l2
            refine ⟨l1, g2.trans l4, g3.trans l5, by simp [g4], fun u hu => ?_, fun i u hu => ?_⟩
            · rcases List.mem_cons.1 hu with rfl | hu
              · rw [← oneC_eq]; exact hone
              · exact g5 u hu
            · cases i with
              | zero =>
                simp only [List.getElem?_cons_zero, Option.some.injEq] at hu
                subst hu
                exact ⟨c, List.mem_of_getElem? l3, l2.1.symm, by rw [← l2.2]; simp, hv⟩
              | succ i =>
                simp only [List.getElem?_cons_succ] at hu
                obtain ⟨d, hd, r1, r2, r3⟩ := g6 i u hu
                exact ⟨d, l4 ▸ hd, r1, by rw [r2]; omega, r3⟩

theorem grow_mono {S : Strat} {ν : Key → Nat} {key : Key} {e : TypeId} {i : TypeInfo} {s : Value} {m : Nat} {news : List Value} {st st' : St} {v : Value}
    (h : growE S ν key e i s m news st = some (v, st')) (hk : st'.Ok) : st.Ok := by
  unfold growE at h
  split at h
  · cases h
  · split at h
    · split at h
      · cases h
      · split at h
        · rename_i s1 hg1
          split at h
          · rename_i s2 hg2
            simp only [Option.some.injEq, Prod.mk.injEq] at h
            obtain ⟨_, rfl⟩ := h
            exact (guess_ok hg1 (guess_ok hg2 ⟨fun p hp => hk.eqs p (List.mem_cons_of_mem _ hp), hk.conds⟩).1).1
          · cases h
        · cases h
    · split at h
      · rename_i s1 hg1
        split at h
        · rename_i s2 hg2
          simp only [Option.some.injEq, Prod.mk.injEq] at h
          obtain ⟨_, rfl⟩ := h
          exact (guess_ok hg1 (guess_ok hg2 ⟨fun p hp => hk.eqs p (List.mem_cons_of_mem _ hp), hk.conds⟩).1).1
        · cases h
      · cases h

theorem src_mono {S : Strat} {ad : Addr} {m size : Nat} {st st' : St} {news : List Value} (h : srcE S ad m size st = some (news, st')) (hk : st'.Ok) : st.Ok := by
  unfold srcE at h
  split at h
  · split at h
    · exact (reads_ok h hk).1
    · cases h
  · split at h
    · split at h
      · split at h
        · rename_i hg1
          split at h
          · rename_i hg2
            simp only [Option.some.injEq, Prod.mk.injEq] at h
            obtain ⟨_, rfl⟩ := h
            have := (guess_ok hg1 (guess_ok hg2 ⟨fun p hp => hk.eqs p (List.mem_cons_of_mem _ hp), hk.conds⟩).1).1
            exact ⟨this.eqs, this.conds⟩
          · cases h
        · cases h
      · cases h
    · split at h
      · split at h
        · rename_i hg1
          split at h
          · rename_i hg2
            simp only [Option.some.injEq, Prod.mk.injEq] at h
            obtain ⟨_, rfl⟩ := h
            have := (guess_ok hg1 (guess_ok hg2 ⟨fun p hp => hk.eqs p (List.mem_cons_of_mem _ hp), hk.conds⟩).1).1
            exact ⟨this.eqs, this.conds⟩
          · cases h
        · cases h
      · cases h
theorem same_mono {S : Strat} {key : Key} {e size : Nat} {s : Value} {st st' : St} {v : Value} (h : sameE S key e size s st = some (v, st')) (hk : st'.Ok) : st.Ok := by
  unfold sameE at h
  split at h
  · cases h
  · split at h
    · split at h
      · simp only [Option.some.injEq, Prod.mk.injEq] at h
        obtain ⟨_, rfl⟩ := h
        exact ⟨fun p hp => hk.eqs p (List.mem_cons_of_mem _ hp), hk.conds⟩
      · cases h
    · simp only [Option.some.injEq, Prod.mk.injEq] at h
      obtain ⟨_, rfl⟩ := h
      exact ⟨fun p hp => hk.eqs p (List.mem_cons_of_mem _ hp), hk.conds⟩

theorem vecE_mono {S : Strat} {ν : Key → Nat} {key : Key} {eval : Operand → Value} {o : Oper} {st st' : St} {v : Value} (h : vecE P S ν key eval o st = some (v, st')) (hk : st'.Ok) : st.Ok := by
  unfold vecE at h
  split at h
  · split at h
    · split at h
      · split at h
        · cases h
        · rename_i hg
          split at h
          · cases h
          · split at h
            · cases h
            · rename_i hr
              exact (guess_ok hg (src_mono hr (grow_mono h hk))).1
        · rename_i hg
          exact (guess_ok hg (same_mono h hk)).1
      · cases h
    · cases h
  · split at h
    · split at h
      · rename_i s1 hg1
        split at h
        · rename_i s2 hg2
          split at h
          · rename_i s3 hg3
            simp only [Option.some.injEq, Prod.mk.injEq] at h
            obtain ⟨_, rfl⟩ := h
            exact (guess_ok hg1 (guess_ok hg2 (guess_ok hg3 ⟨fun p hp => hk.eqs p (List.mem_cons_of_mem _ hp), hk.conds⟩).1).1).1
          · cases h
        · cases h
      · cases h
    · cases h
  · cases h

theorem mem_setVec {x y : Vec} : ∀ {l : List Vec} {i : Nat}, y ∈ setVec x l i → y = x ∨ y ∈ l
  | z :: r, 0, h => (List.mem_cons.1 h).imp id (List.mem_cons_of_mem _)
  | z :: r, i + 1, h => by
    rcases List.mem_cons.1 h with rfl | h
    · exact .inr (List.mem_cons_self ..)
    · exact (mem_setVec h).imp id (List.mem_cons_of_mem _)

/-- What is known when a slice becomes another: the others are none of its rows. -/
theorem setVec_sep {x x0 : Vec} {R : Vec → Vec → Prop} (hR : ∀ y, R x0 y → R x y) (hR' : ∀ y, R y x0 → R y x) : ∀ {l : List Vec} {i : Nat}, l[i]? = some x0 → l.Pairwise R → (setVec x l i).Pairwise R
  | z :: r, 0, h, hp => by
    simp only [List.getElem?_cons_zero, Option.some.injEq] at h
    subst h
    rw [List.pairwise_cons] at hp
    exact List.pairwise_cons.2 ⟨fun y hy => hR y (hp.1 y hy), hp.2⟩
  | z :: r, i + 1, h, hp => by
    simp only [List.getElem?_cons_succ] at h
    rw [List.pairwise_cons] at hp
    refine List.pairwise_cons.2 ⟨fun y hy => ?_, setVec_sep hR hR' h hp.2⟩
    rcases mem_setVec hy with rfl | hy
    · exact hR' z (hp.1 x0 (List.mem_of_getElem? h))
    · exact hp.1 y hy

theorem setVec_mem_far {x x0 : Vec} : ∀ {l : List Vec} {i : Nat} {y : Vec}, l[i]? = some x0 → l.Pairwise (fun x y => ∀ g, x.v.ownBlock = some g → y.v.ownBlock ≠ some g) → y ∈ setVec x l i →
    y = x ∨ (y ∈ l ∧ (y.v.ownBlock = none ∨ y.v.ownBlock ≠ x0.v.ownBlock))
  | z :: r, 0, y, h, hp, hy => by
    simp only [List.getElem?_cons_zero, Option.some.injEq] at h
    subst h
    rw [List.pairwise_cons] at hp
    rcases List.mem_cons.1 hy with rfl | hy
    · exact .inl rfl
    · refine .inr ⟨List.mem_cons_of_mem _ hy, ?_⟩
      cases hyb : y.v.ownBlock with
      | none => exact .inl rfl
      | some k => exact .inr (fun hh => hp.1 y hy k hh.symm hyb)
  | z :: r, i + 1, y, h, hp, hy => by
    simp only [List.getElem?_cons_succ] at h
    rw [List.pairwise_cons] at hp
    rcases List.mem_cons.1 hy with rfl | hy
    · refine .inr ⟨List.mem_cons_self .., ?_⟩
      cases hyb : y.v.ownBlock with
      | none => exact .inl rfl
      | some k => exact .inr (fun hh => hp.1 x0 (List.mem_of_getElem? h) k hyb hh.symm)
    · exact (setVec_mem_far h hp.2 hy).imp id (fun ⟨a, b⟩ => ⟨List.mem_cons_of_mem _ a, b⟩)

theorem setVec_new {x : Vec} {H : Nat} (hxb : x.v.ownBlock = some H) : ∀ {l : List Vec} {i : Nat} {x0 : Vec}, l[i]? = some x0 → (∀ y ∈ l, ∀ k, y.v.ownBlock = some k → k ≠ H) →
    l.Pairwise (fun x y => ∀ g, x.v.ownBlock = some g → y.v.ownBlock ≠ some g) → (setVec x l i).Pairwise (fun x y => ∀ g, x.v.ownBlock = some g → y.v.ownBlock ≠ some g)
  | y :: r, 0, x0, hx, hlt, hp => by
    rw [List.pairwise_cons] at hp
    refine List.pairwise_cons.2 ⟨fun u hu k hk hk' => ?_, hp.2⟩
    rw [hxb] at hk
    simp only [Option.some.injEq] at hk
    exact hlt u (List.mem_cons_of_mem _ hu) k hk' hk.symm
  | y :: r, i + 1, x0, hx, hlt, hp => by
    rw [List.pairwise_cons] at hp
    simp only [List.getElem?_cons_succ] at hx
    refine List.pairwise_cons.2 ⟨fun u hu k hk hk' => ?_, setVec_new hxb hx (fun u hu => hlt u (List.mem_cons_of_mem _ hu)) hp.2⟩
    rcases mem_setVec hu with rfl | hu
    · rw [hxb] at hk'
      simp only [Option.some.injEq] at hk'
      exact hlt y (List.mem_cons_self ..) k hk hk'.symm
    · exact hp.1 u hu k hk hk'

/-- append, and where the new slice lies, and what of the old blocks is as it was. -/
theorem append_run {w : World} {t ty e : TypeId} {i : TypeInfo} {z : Value} (ht : P.underlying t = some (.slice e)) (hi : P.info? e = some i) (hz : i.zero = some z) (hzs : z.cells.size = i.size) (hsz : 0 < i.size)
    {v : Value} {n : Nat} {xs : List Value} (hown : w.ownsRow 0 e i.size v n xs) {ad : Addr} {m c : Nat} {news : List Value} (hl : news.length = m * i.size) (hnews : ∀ j u, news[j]? = some u → w.cell? (ad.add j) = some u)
    (h1 : ∀ u ∈ news, u.oneCell' = true) (hm : 0 < m) (h63 : n + m ≤ maxLen) (hbytes : (n + m) * i.bytes ≤ 140737488355328) :
    ∃ g cap w', (Builtin.append_ #[t, t] ty #[v, .slice (some ad) m c]).run P w = .ok (.slice (some ⟨g, 0, none⟩) (n + m) cap) w' ∧
      w'.ownsRow 0 e i.size (.slice (some ⟨g, 0, none⟩) (n + m) cap) (n + m) (xs ++ news) ∧ w.grownBy w' v.ownBlock ∧ (v.ownBlock = some g ∨ g = w.heap.size) ∧ Sub (fun k _ => v.ownBlock = some k) w w' := by
  obtain ⟨g, cap, w', hr, ho, hg, hat, hlt⟩ := run_append_lies (P := P) w t ty 0 e i z i.size i.bytes ht hi hz rfl rfl hzs hsz v n xs hown ad m c news hl hnews h1 hm h63 hbytes (Nat.zero_le _) _ rfl
  have hfresh : ∀ k, w.heap.size ≤ k → ∀ c t f, w'.heap[k]? = some (.cells c t f) → f = (0, 0) := fun k hk c2 t2 f2 e2 => by
    have pushed : ∀ (o : Array Value), w' = w.drew.alloc (.cells o e) → f2 = (0, 0) := fun o hw => by
      rw [hw] at e2
      have e3 : (w.heap.push (.cells o e (0, 0)))[k]? = some (.cells c2 t2 f2) := e2
      simp only [Array.getElem?_push] at e3
      split at e3
      · simp only [Option.some.injEq, Obj.cells.injEq] at e3; exact e3.2.2.symm
      · exact (no_block hk e3).elim
    have hsmall : n + m ≤ 9223372036854775807 := by simp only [maxLen] at h63; omega
    rcases hown.2 with ⟨rfl, rfl⟩ | ⟨g0, cap0, cur, rfl, _, hg0, hnc, hcm, hcs, htake⟩
    · have hr2 := run_append_nil (P := P) w t ty e i z ht hi hz ad m c news hl hnews hm (by omega) (by have hb := hbytes; simp only [Nat.zero_add] at hb; omega)
      rw [hr] at hr2
      simp only [Result.ok.injEq] at hr2
      exact pushed _ hr2.2
    · by_cases hroom : n + m ≤ cap0
      · have hfit : n * i.size + news.length ≤ cur.size := by rw [hl, hcs, ← Nat.add_mul]; exact Nat.mul_le_mul_right _ hroom
        have hr2 := run_append_room (P := P) w t ty e i ht hi g0 n cap0 cur hg0 ad m c news hl hnews h1 hroom hfit
        rw [hr] at hr2
        simp only [Result.ok.injEq] at hr2
        have e3 := setRow_other w g0 k (cur.toList.take (n * i.size) ++ news ++ cur.toList.drop (n * i.size + news.length)).toArray (fun e => by
          have : g0 < w.heap.size := heap_lt_of_own hown rfl
          omega)
        rw [hr2.2, e3] at e2
        exact (no_block hk e2).elim
      · have hr2 := run_append_grow (P := P) w t ty e i z ht hi hz ⟨g0, 0, none⟩ n cap0 xs hown.1 (hown.cells (g := g0) rfl) ad m c news hl hnews (by omega) (by omega) (growslice_fits (by omega) hbytes)
        rw [hr] at hr2
        simp only [Result.ok.injEq] at hr2
        exact pushed _ hr2.2
  refine ⟨g, cap, w', hr, ho, hg, hat, hg.os, hg.tape, hg.output, hg.size, fun k hk o hok => ?_, hfresh⟩
  by_cases hrow : some k = v.ownBlock
  · rcases hown.2 with ⟨rfl, _⟩ | ⟨g0, cap0, cur, rfl, _, hg0, hnc, hcm, hcs, htake⟩
    · cases hrow
    · simp only [Value.ownBlock, Option.some.injEq] at hrow
      subst hrow
      rw [hg0] at hok
      simp only [Option.some.injEq] at hok
      subst hok
      simp only
      by_cases hroom : n + m ≤ cap0
      · have hfit : n * i.size + news.length ≤ cur.size := by rw [hl, hcs, ← Nat.add_mul]; exact Nat.mul_le_mul_right _ hroom
        have hr2 := run_append_room (P := P) w t ty e i ht hi k n cap0 cur hg0 ad m c news hl hnews h1 hroom hfit
        rw [hr] at hr2
        simp only [Result.ok.injEq] at hr2
        refine ⟨_, by rw [hr2.2]; exact setRow_heap w k cur _ e _ hg0, ?_, fun i hi => absurd rfl hi⟩
        simp only [List.size_toArray, List.length_append, List.length_take, List.length_drop, Array.length_toList]
        omega
      · have hsmall : n + m ≤ 9223372036854775807 := by simp only [maxLen] at h63; omega
        have hr2 := run_append_grow (P := P) w t ty e i z ht hi hz ⟨k, 0, none⟩ n cap0 xs hown.1 (hown.cells (g := k) rfl) ad m c news hl hnews (by omega) (by omega) (growslice_fits (by omega) hbytes)
        rw [hr] at hr2
        simp only [Result.ok.injEq] at hr2
        refine ⟨cur, ?_, rfl, fun _ _ => rfl⟩
        rw [hr2.2, heap_alloc_old w.drew _ hk]
        exact hg0
  · have e := (hg.block k hk hrow).trans hok
    cases o <;> first | exact e | exact ⟨_, e, rfl, fun _ _ => rfl⟩

theorem Fam.inv0 {C : Nat → Nat → Prop} {B : Nat} {D : Dom} {w : World} {st : (Key → Nat) → St} (h : Fam C B D w st) : Inv C B w (st (fun k => (D k).getD 0)) := h.inv _ (Ag.some D)

/-- What the world may have become on a slice's growth: a slice of the call's own, among the others. -/
theorem Inv.grown {C : Nat → Nat → Prop} {B : Nat} {w w' : World} {st : St} (h : Inv C B w st) (hB : B ≤ w.heap.size) {row : Option Nat} (hg : w.grownBy w' row) (hrow : ∀ k, row = some k → ∃ x ∈ st.shapes.vecs, x.v.ownBlock = some k)
    {x : Vec} {g : Nat} (hx : w'.ownsRow 0 x.e x.size x.v x.n x.xs) (hxb : x.v.ownBlock = some g) (hat : row = some g ∨ g = w.heap.size) {vs : List Vec}
    (hmem : ∀ y ∈ vs, y = x ∨ (y ∈ st.shapes.vecs ∧ (y.v.ownBlock = none ∨ y.v.ownBlock ≠ row))) (hdist : vs.Pairwise (fun x y => ∀ g, x.v.ownBlock = some g → y.v.ownBlock ≠ some g)) (todo : List (Key × Nat)) :
    Inv C B w' { st with shapes := { st.shapes with vecs := vs, todo := todo } } := by
  have far : ∀ c ∈ st.cells, some c.b ≠ row := fun c hc e => by
    obtain ⟨y, hy, hyb⟩ := hrow c.b e.symm
    exact (h.vsep y hy c.b hyb).1 c hc rfl
  refine ⟨fun c hc v hv => ?_, fun c hc => ?_, h.dist, fun s hs => ?_, fun c hc => Nat.lt_of_lt_of_le (h.lt c hc) hg.size, fun s hs => Nat.lt_of_lt_of_le (h.slt s hs) hg.size, h.own, fun y hy => ?_, fun y hy k hk => ?_, hdist, h.sfresh, h.sdist, fun r hr => ?_⟩
  · rw [hg.cell_far ⟨c.b, c.o, none⟩ (h.lt c hc) (far c hc)]; exact h.cell c hc v hv
  · rw [hg.frozen_far ⟨c.b, c.o, none⟩ (h.lt c hc) (far c hc)]; exact h.free c hc
  · have hne : some s.1 ≠ row := fun e => by
      obtain ⟨y, hy, hyb⟩ := hrow s.1 e.symm
      exact (h.vsep y hy s.1 hyb).2.1 s hs rfl
    have := h.shp s hs
    simp only [World.shape?, hg.block s.1 (h.slt s hs) hne] at this ⊢
    exact this
  · rcases hmem y hy with rfl | ⟨hy1, hy2⟩
    · exact hx
    · exact (h.vec y hy1).kept hg hy2
  · rcases hmem y hy with rfl | ⟨hy1, hy2⟩
    · rw [hxb] at hk
      simp only [Option.some.injEq] at hk
      subst hk
      rcases hat with hat | rfl
      · obtain ⟨y, hy, hyb⟩ := hrow g hat
        exact h.vsep y hy g hyb
      · exact ⟨fun c hc => Nat.ne_of_lt (h.lt c hc), fun s hs => Nat.ne_of_lt (h.slt s hs), fun i => .inr hB⟩
    · exact h.vsep y hy1 k hk
  · obtain ⟨q1, q2, q3⟩ := h.ro r hr
    refine ⟨q1, q2, fun j u hu => ?_⟩
    obtain ⟨q4, q5, q6⟩ := q3 j u hu
    have hne : some r.a.block ≠ row := fun e => by
      obtain ⟨y, hy, hyb⟩ := hrow r.a.block e.symm
      rcases (h.vsep y hy r.a.block hyb).2.2 (r.a.off + j) with hc | hc
      · exact q6 hc
      · omega
    have hlt : r.a.block < w.heap.size := by
      rcases Nat.lt_or_ge r.a.block w.heap.size with hl | hl
      · exact hl
      · simp [World.cell?, Array.getElem?_eq_none hl] at q4
    exact ⟨by rw [hg.cell_far ⟨r.a.block, r.a.off + j, none⟩ hlt hne]; exact q4, by rw [hg.frozen_far ⟨r.a.block, r.a.off + j, none⟩ hlt hne]; exact q5, q6⟩

theorem two_put {D : Dom} {key : Key} (hf : ∀ k, key <:+ k → D k = none) (g cap : Nat) : Dom.Ext key D ((D.put (0 :: key) g).put (1 :: key) cap) ∧
    ∀ ν, Ag ((D.put (0 :: key) g).put (1 :: key) cap) ν → Ag D ν ∧ ν (0 :: key) = g ∧ ν (1 :: key) = cap := by
  have h0 : D (0 :: key) = none := hf _ (List.suffix_cons ..)
  have h1 : (D.put (0 :: key) g) (1 :: key) = none := by
    unfold Dom.put
    rw [if_neg (by simp)]
    exact hf _ (List.suffix_cons ..)
  refine ⟨⟨fun x n hx => ?_, fun x hx => ?_⟩, fun ν hν => ?_⟩
  · have hx' : ¬ key <:+ x := fun hh => by rw [hf x hh] at hx; cases hx
    have n0 : x ≠ 0 :: key := fun hh => hx' (by rw [hh]; exact List.suffix_cons ..)
    have n1 : x ≠ 1 :: key := fun hh => hx' (by rw [hh]; exact List.suffix_cons ..)
    unfold Dom.put
    rw [if_neg n1, if_neg n0]
    exact hx
  · have n0 : x ≠ 0 :: key := fun hh => hx (by rw [hh]; exact List.suffix_cons ..)
    have n1 : x ≠ 1 :: key := fun hh => hx (by rw [hh]; exact List.suffix_cons ..)
    unfold Dom.put
    rw [if_neg n1, if_neg n0]
  · obtain ⟨a1, a2⟩ := Ag.of_put hν h1
    obtain ⟨b1, b2⟩ := Ag.of_put a1 h0
    exact ⟨b1, b2, a2⟩

theorem append_zero {w : World} {t ty e : TypeId} {i : TypeInfo} {z : Value} (ht : P.underlying t = some (.slice e)) (hi : P.info? e = some i) (hz : i.zero = some z) {b ad : Addr} {m c : Nat} {news : List Value} (hl : news.length = m * i.size) (hnews : ∀ j u, news[j]? = some u → w.cell? (ad.add j) = some u)
    (hm : 0 < m) (hm1 : m ≤ maxLen) (hm2 : m * i.bytes ≤ 140737488355328) :
    (Builtin.append_ #[t, t] ty #[.slice (some b) 0 0, .slice (some ad) m c]).run P w = (Builtin.append_ #[t, t] ty #[.slice none 0 0, .slice (some ad) m c]).run P w := by
  have hsmall : m ≤ 9223372036854775807 := by simp only [maxLen] at hm1; omega
  rw [run_append_nil (P := P) w t ty e i z ht hi hz ad m c news hl hnews hm (by omega) (by omega),
    run_append_grow (P := P) w t ty e i z ht hi hz b 0 0 [] (by simp) (by simp) ad m c news hl hnews (by omega) (by omega) (growslice_fits (by omega) (by simpa using hm2))]
  simp
theorem grow_sound {S : Strat} {C : Nat → Nat → Prop} {B : Nat} {D : Dom} {w : World} {st st' : (Key → Nat) → St} {v : (Key → Nat) → Value} {key : Key} (hB : B ≤ w.heap.size) (hf : ∀ k, key <:+ k → D k = none) (hfam : Fam C B D w st)
    {t ty e : TypeId} {i : TypeInfo} {z : Value} (hel : elemOf P t = some (e, i, z)) {s : Value} {ad : Addr} {m c : Nat} {news : List Value} (hl : news.length = m * i.size) (hnews : ∀ j u, news[j]? = some u → w.cell? (ad.add j) = some u)
    (h1 : ∀ u ∈ news, u.oneCell' = true) (hm : 0 < m) (h : ∀ ν, Ag D ν → growE S ν key e i s m news (st ν) = some (v ν, st' ν) ∧ (st' ν).Ok) :
    ∃ x w' D', (Builtin.append_ #[t, t] ty #[s, .slice (some ad) m c]).run P w = .ok x w' ∧ Dom.Ext key D D' ∧ (∀ ν, Ag D' ν → v ν = x) ∧ Fam C B D' w' st' ∧ Sub (fun k i => C k i ∨ B ≤ k) w w' := by
  obtain ⟨ht, hi, hz, hzs, hsz⟩ := elemOf_ok hel
  generalize hν0 : (fun k => (D k).getD 0) = ν0
  have hA0 : Ag D ν0 := hν0 ▸ Ag.some D
  have hsh : ∀ ν, Ag D ν → (st ν).shapes = (st ν0).shapes := fun ν hν => (hfam.uni ν ν0 hν hA0).2
  cases hvec : S.vec key (st ν0).shapes.vecs (blkOf s) (st ν0).shapes.todo with
  | none =>
    have := (h ν0 hA0).1
    simp [growE, hvec] at this
  | some q =>
    obtain ⟨idx, todo⟩ := q
    cases hx : (st ν0).shapes.vecs[idx]? with
    | some x =>
      have key1 : ∀ ν, Ag D ν → x.e = e ∧ x.size = i.size ∧ x.n + m ≤ maxLen ∧ (x.n + m) * i.bytes ≤ 140737488355328 ∧ s = x.v ∧ v ν = .slice (some ⟨ν (0 :: key), 0, none⟩) (x.n + m) (ν (1 :: key)) ∧
          (st' ν).cells = (st ν).cells ∧ (st' ν).shapes = { (st ν0).shapes with todo := todo, vecs := setVec { x with v := .slice (some ⟨ν (0 :: key), 0, none⟩) (x.n + m) (ν (1 :: key)), n := x.n + m, xs := x.xs ++ news } (st ν0).shapes.vecs idx } := fun ν hν => by
        obtain ⟨g1, g2⟩ := h ν hν
        unfold growE at g1
        rw [hsh ν hν, hvec] at g1
        simp only [hx, addV_eq] at g1
        split at g1
        · cases g1
        · rename_i hb
          simp only [Bool.and_eq_true, Nat.beq_eq] at hb
          split at g1
          · rename_i s1 hg1
            split at g1
            · rename_i s2 hg2
              simp only [Option.some.injEq, Prod.mk.injEq] at g1
              obtain ⟨e1, e2⟩ := g1
              rw [← e2] at g2 ⊢
              obtain ⟨k1, k2, k3, k4⟩ := guess_ok hg2 ⟨fun p hp => g2.eqs p (List.mem_cons_of_mem _ hp), g2.conds⟩
              obtain ⟨j1, j2, j3, j4⟩ := guess_ok hg1 k1
              refine ⟨hb.1, hb.2, of_decide_eq_true j2, of_decide_eq_true k2, g2.eqs _ (List.mem_cons_self ..), e1.symm, k3.trans j3, ?_⟩
              simp only [k4.trans (j4.trans (hsh ν hν))]
            · cases g1
          · cases g1
      obtain ⟨rfl, hxs, hm1, hm2, rfl, _, _, _⟩ := key1 ν0 hA0
      have hmem : x ∈ (st ν0).shapes.vecs := List.mem_of_getElem? hx
      have hown := (hfam.inv ν0 hA0).vec x hmem
      rw [hxs] at hown
      obtain ⟨g, cap, w', hr, ho, hg, hat, hsub⟩ := append_run (P := P) (ty := ty) (c := c) ht hi hz hzs hsz hown hl hnews h1 hm hm1 hm2
      obtain ⟨hext, hag⟩ := two_put hf g cap
      refine ⟨_, w', _, hr, hext, fun ν hν => ?_, ⟨fun ν hν => ?_, fun ν ν' hν hν' => ?_⟩, ?_⟩
      · obtain ⟨a1, a2, a3⟩ := hag ν hν
        rw [(key1 ν a1).2.2.2.2.2.1, a2, a3]
      · obtain ⟨a1, a2, a3⟩ := hag ν hν
        obtain ⟨_, _, _, _, _, _, c1, c2⟩ := key1 ν a1
        have hI := hfam.inv ν a1
        have hvs : (st ν).shapes.vecs = (st ν0).shapes.vecs := by rw [hsh ν a1]
        have hvd : (st ν0).shapes.vecs.Pairwise (fun x y => ∀ g, x.v.ownBlock = some g → y.v.ownBlock ≠ some g) := by rw [← hvs]; exact hI.vdist
        have hdist : (setVec { x with v := .slice (some ⟨g, 0, none⟩) (x.n + m) cap, n := x.n + m, xs := x.xs ++ news } (st ν0).shapes.vecs idx).Pairwise (fun x y => ∀ g, x.v.ownBlock = some g → y.v.ownBlock ≠ some g) := by
          rcases hat with hat | rfl
          · refine setVec_sep (fun y hy k hk => ?_) (fun y hy k hk hk' => ?_) hx hvd
            · simp only [Value.ownBlock, Option.some.injEq] at hk
              subst hk
              exact hy g hat
            · simp only [Value.ownBlock, Option.some.injEq] at hk'
              subst hk'
              exact hy g hk hat
          · -- the new block is none of the others'
            have hlt : ∀ y ∈ (st ν0).shapes.vecs, ∀ k, y.v.ownBlock = some k → k ≠ w.heap.size := fun y hy k hk => Nat.ne_of_lt (heap_lt_of_own ((hfam.inv ν0 hA0).vec y hy) hk)
            exact setVec_new rfl hx hlt hvd
        have key2 := hI.grown hB hg (fun k hk => ⟨x, by rw [hvs]; exact hmem, hk⟩) (x := { x with v := .slice (some ⟨g, 0, none⟩) (x.n + m) cap, n := x.n + m, xs := x.xs ++ news }) (g := g) (by simp only [hxs]; exact ho) rfl hat
          (vs := setVec { x with v := .slice (some ⟨g, 0, none⟩) (x.n + m) cap, n := x.n + m, xs := x.xs ++ news } (st ν0).shapes.vecs idx) (fun y hy => ?_) hdist todo
        · refine key2.of_cells c1 ?_
          rw [c2, a2, a3, hsh ν a1]
        · rw [hvs]
          exact setVec_mem_far hx hvd hy
      · obtain ⟨a1, a2, a3⟩ := hag ν hν
        obtain ⟨b1, b2, b3⟩ := hag ν' hν'
        obtain ⟨_, _, _, _, _, _, c1, c2⟩ := key1 ν a1
        obtain ⟨_, _, _, _, _, _, d1, d2⟩ := key1 ν' b1
        exact ⟨c1.trans ((hfam.uni ν ν' a1 b1).1.trans d1.symm), by rw [c2, d2, a2, a3, b2, b3]⟩
      · exact hsub.mono fun k i hk => ((hfam.inv ν0 hA0).vsep x hmem k hk).2.2 i
    | none =>
      have key1 : ∀ ν, Ag D ν → m ≤ maxLen ∧ m * i.bytes ≤ 140737488355328 ∧ s = nilOr s ∧ v ν = .slice (some ⟨ν (0 :: key), 0, none⟩) m (ν (1 :: key)) ∧
          (st' ν).cells = (st ν).cells ∧ (st' ν).shapes = { (st ν0).shapes with todo := todo, vecs := (st ν0).shapes.vecs ++ [⟨e, i.size, .slice (some ⟨ν (0 :: key), 0, none⟩) m (ν (1 :: key)), m, news⟩] } := fun ν hν => by
        obtain ⟨g1, g2⟩ := h ν hν
        unfold growE at g1
        rw [hsh ν hν, hvec] at g1
        simp only [hx] at g1
        split at g1
        · rename_i s1 hg1
          split at g1
          · rename_i s2 hg2
            simp only [Option.some.injEq, Prod.mk.injEq] at g1
            obtain ⟨e1, e2⟩ := g1
            rw [← e2] at g2 ⊢
            obtain ⟨k1, k2, k3, k4⟩ := guess_ok hg2 ⟨fun p hp => g2.eqs p (List.mem_cons_of_mem _ hp), g2.conds⟩
            obtain ⟨j1, j2, j3, j4⟩ := guess_ok hg1 k1
            refine ⟨of_decide_eq_true j2, of_decide_eq_true k2, g2.eqs _ (List.mem_cons_self ..), e1.symm, k3.trans j3, ?_⟩
            simp only [k4.trans (j4.trans (hsh ν hν))]
          · cases g1
        · cases g1
      obtain ⟨hm1, hm2, hsn, _, _, _⟩ := key1 ν0 hA0
      obtain ⟨g, cap, w', hr, ho, hg, hat, hsub⟩ := append_run (P := P) (ty := ty) (c := c) ht hi hz hzs hsz (World.ownsRow_nil w 0 e i.size) hl hnews h1 hm (by simpa using hm1) (by simpa using hm2)
      simp only [Nat.zero_add, List.nil_append] at hr ho
      have hr : (Builtin.append_ #[t, t] ty #[s, .slice (some ad) m c]).run P w = .ok (.slice (some ⟨g, 0, none⟩) m cap) w' := by
        rcases nilOr_cases hsn with rfl | ⟨b, rfl⟩
        · exact hr
        · rw [append_zero (P := P) ht hi hz hl hnews hm hm1 hm2]; exact hr
      obtain ⟨hext, hag⟩ := two_put hf g cap
      have hgs : g = w.heap.size := hat.resolve_left (by intro hh; cases hh)
      refine ⟨_, w', _, hr, hext, fun ν hν => ?_, ⟨fun ν hν => ?_, fun ν ν' hν hν' => ?_⟩, ?_⟩
      · obtain ⟨a1, a2, a3⟩ := hag ν hν
        rw [(key1 ν a1).2.2.2.1, a2, a3]
      · obtain ⟨a1, a2, a3⟩ := hag ν hν
        obtain ⟨_, _, _, _, c1, c2⟩ := key1 ν a1
        have hI := hfam.inv ν a1
        have hvs : (st ν).shapes.vecs = (st ν0).shapes.vecs := by rw [hsh ν a1]
        have key2 := hI.grown hB hg (fun k hk => (by cases hk)) (x := ⟨e, i.size, .slice (some ⟨g, 0, none⟩) m cap, m, news⟩) (g := g) ho rfl hat
          (vs := (st ν0).shapes.vecs ++ [⟨e, i.size, .slice (some ⟨g, 0, none⟩) m cap, m, news⟩]) (fun y hy => ?_) (List.pairwise_append.2 ⟨hvs ▸ hI.vdist, List.pairwise_singleton .., fun y hy u hu k hk hk' => ?_⟩) todo
        · refine key2.of_cells c1 ?_
          rw [c2, a2, a3, hsh ν a1]
        · rcases List.mem_append.1 hy with hy | hy
          · refine .inr ⟨hvs ▸ hy, ?_⟩
            cases hyb : y.v.ownBlock with
            | none => exact .inl rfl
            | some k => exact .inr (by intro hh; cases hh)
          · exact .inl (List.mem_singleton.1 hy)
        · rw [List.mem_singleton.1 hu] at hk'
          simp only [Value.ownBlock, Option.some.injEq] at hk'
          have := heap_lt_of_own (hI.vec y (hvs ▸ hy)) hk
          omega
      · obtain ⟨a1, a2, a3⟩ := hag ν hν
        obtain ⟨b1, b2, b3⟩ := hag ν' hν'
        obtain ⟨_, _, _, _, c1, c2⟩ := key1 ν a1
        obtain ⟨_, _, _, _, d1, d2⟩ := key1 ν' b1
        exact ⟨c1.trans ((hfam.uni ν ν' a1 b1).1.trans d1.symm), by rw [c2, d2, a2, a3, b2, b3]⟩
      · exact hsub.mono fun k i hk => (by cases hk)

theorem reads_world {S : Strat} {C : Nat → Nat → Prop} {B : Nat} {w : World} {b off k : Nat} {st st' : St} {vs : List Value} (hi : Inv C B w st) (h : readsE S b off k 0 st = some (vs, st')) (hk : st'.Ok) :
    ∀ j u, vs[j]? = some u → w.cell? ((⟨b, off, none⟩ : Addr).add j) = some u := fun j u hu => by
  obtain ⟨_, _, _, _, _, g6⟩ := reads_ok h hk
  obtain ⟨c, hc, r1, r2, r3⟩ := g6 j u hu
  rw [add_eq, ← r1, show off + j = c.o by rw [r2]; omega]
  exact hi.cell c hc u r3

theorem src_world {S : Strat} {C : Nat → Nat → Prop} {B : Nat} {w : World} {ad : Addr} {m size : Nat} {st st' : St} {news : List Value} (hi : Inv C B w st) (h : srcE S ad m size st = some (news, st')) (hk : st'.Ok) :
    st'.cells = st.cells ∧ st'.shapes = st.shapes ∧ news.length = m * size ∧ (∀ u ∈ news, u.oneCell' = true) ∧ ∀ j u, news[j]? = some u → w.cell? (ad.add j) = some u := by
  unfold srcE at h
  split at h
  · split at h
    · obtain ⟨_, q1, q2, q3, q4, _⟩ := reads_ok h hk
      exact ⟨q1, q2, q3, q4, reads_world hi h hk⟩
    · cases h
  · split at h
    · rename_i y hy
      split at h
      · rename_i a' n' c' hv
        split at h
        · rename_i s1 hg1
          split at h
          · rename_i s2 hg2
            simp only [Option.some.injEq, Prod.mk.injEq] at h
            obtain ⟨rfl, rfl⟩ := h
            obtain ⟨p1, p2, p3, p4⟩ := guess_ok hg2 ⟨fun p hp => hk.eqs p (List.mem_cons_of_mem _ hp), hk.conds⟩
            obtain ⟨r1, r2, r3, r4⟩ := guess_ok hg1 p1
            have ha := hk.eqs _ (List.mem_cons_self ..)
            simp only [addr, Value.pointer.injEq, Option.some.injEq] at ha
            have hx := hi.vec y (List.mem_of_getElem? (nth_eq _ _ ▸ hy))
            rw [hv] at hx
            obtain ⟨e1, e2⟩ := vec_at hx
            refine ⟨p3.trans r3, p4.trans r4, Nat.eq_of_beq_eq_true p2, fun u hu => by rw [← oneC_eq]; exact List.all_eq_true.1 r2 u hu, fun j u hu => ?_⟩
            rw [ha, add_eq, Nat.zero_add]
            exact ((e2 j).1 (List.getElem?_eq_some_iff.1 hu).1).trans hu
          · cases h
        · cases h
      · cases h
    · split at h
      · rename_i r hr
        split at h
        · rename_i s1 hg1
          split at h
          · rename_i s2 hg2
            simp only [Option.some.injEq, Prod.mk.injEq] at h
            obtain ⟨rfl, rfl⟩ := h
            obtain ⟨p1, p2, p3, p4⟩ := guess_ok hg2 ⟨fun p hp => hk.eqs p (List.mem_cons_of_mem _ hp), hk.conds⟩
            obtain ⟨r1, r2, r3, r4⟩ := guess_ok hg1 p1
            have ha := hk.eqs _ (List.mem_cons_self ..)
            simp only [addr, Value.pointer.injEq, Option.some.injEq] at ha
            obtain ⟨_, _, h5⟩ := hi.ro r (List.mem_of_getElem? (nth_eq _ _ ▸ hr))
            refine ⟨p3.trans r3, p4.trans r4, Nat.eq_of_beq_eq_true p2, fun u hu => by rw [← oneC_eq]; exact List.all_eq_true.1 r2 u hu, fun j u hu => ?_⟩
            rw [ha, add_eq]
            exact (h5 j u hu).1
          · cases h
        · cases h
      · cases h

theorem run_append_zero {w : World} {t ty e : TypeId} {i : TypeInfo} (ht : P.underlying t = some (.slice e)) (hi : P.info? e = some i) {v : Value} {n : Nat} {xs : List Value} (hown : w.ownsRow 0 e i.size v n xs) (sa : Option Addr) (c : Nat) :
    (Builtin.append_ #[t, t] ty #[v, .slice sa 0 c]).run P w = .ok v w := by
  rcases hown.2 with ⟨rfl, rfl⟩ | ⟨g, cap, cur, rfl, _, _, hnc, _⟩
  · cases sa <;> simp [Builtin.append_, run_underlying ht, sizeOf, typeInfo, hi, Builtin.lenOf, Builtin.firstCells, loadCells, show ∀ a : Addr, loadCellsFrom a 0 0 #[] = pure #[] from fun _ => rfl, storeCells]
  · cases sa <;> simp [Builtin.append_, run_underlying ht, sizeOf, typeInfo, hi, Builtin.lenOf, Builtin.firstCells, hnc, loadCells, show ∀ a : Addr, loadCellsFrom a 0 0 #[] = pure #[] from fun _ => rfl, storeCells]

theorem vec_sound {S : Strat} {C : Nat → Nat → Prop} {B : Nat} {D : Dom} {w : World} {st st' : (Key → Nat) → St} {v : (Key → Nat) → Value} {key : Key} {eval : Operand → Value} {o : Oper} (hB : B ≤ w.heap.size) (hf : ∀ k, key <:+ k → D k = none) (hfam : Fam C B D w st)
    (h : ∀ ν, Ag D ν → vecE P S ν key eval o (st ν) = some (v ν, st' ν) ∧ (st' ν).Ok) :
    ∃ x w' D', (execOp eval o).run P w = .ok (.value x) w' ∧ Dom.Ext key D D' ∧ (∀ ν, Ag D' ν → v ν = x) ∧ Fam C B D' w' st' ∧ Sub (fun k i => C k i ∨ B ≤ k) w w' := by
  have hA0 : Ag D (fun k => (D k).getD 0) := Ag.some D
  have h0 := (h _ hA0).1
  obtain ⟨dst, op, type, pos, after, guard⟩ := o
  unfold vecE at h0
  split at h0
  · rename_i c heq
    simp only at heq
    subst heq
    split at h0
    · rename_i s x t t' hc1 hc2 hc3
      split at h0
      · rename_i e i z sa m cap ht hel hx
        have htt := Nat.eq_of_beq_eq_true ht
        subst htt
        obtain ⟨callee, args, argTypes⟩ := c
        simp only at hc1 hc2 hc3
        have ha : args = #[s, x] := by rw [← Array.toArray_toList (xs := args), hc2]
        have hat : argTypes = #[t, t] := by rw [← Array.toArray_toList (xs := argTypes), hc3]
        have hrun : ∀ (y : Value) (w' : World), (Builtin.append_ #[t, t] type #[eval s, .slice sa m cap]).run P w = .ok y w' → (execOp eval ⟨dst, .call ⟨callee, args, argTypes⟩, type, pos, after, guard⟩).run P w = .ok (.value y) w' := fun y w' hr => by
          subst hc1 ha hat
          unfold execOp
          simp only [resolve, invoke, builtin, Sem.run_bind, Sem.run_pure, Result.andThen_ok, List.map_toArray, List.map_cons, List.map_nil, hx, hr]
        clear h0
        by_cases hm : 0 < m
        · have hm' : Nat.blt 0 m = true := by rw [Nat.blt_eq]; exact hm
          obtain ⟨f, hf1⟩ := pick (D := D) ((⟨0, 0, none⟩, [], st (fun _ => 0)) : Addr × List Value × St) (Q := fun ν y => sa = some y.1 ∧ ∃ s0, s0.cells = (st ν).cells ∧ s0.shapes = (st ν).shapes ∧ srcE S y.1 m i.size s0 = some (y.2.1, y.2.2) ∧ y.2.2.Ok ∧ growE S ν key e i (eval s) m y.2.1 y.2.2 = some (v ν, st' ν)) (fun ν hν => by
            obtain ⟨g1, g2⟩ := h ν hν
            unfold vecE at g1
            simp only [hc1, hc2, hc3, ht, hel, hx] at g1
            split at g1
            · cases g1
            · rename_i s0 hg
              split at g1
              · cases g1
              · rename_i ad
                split at g1
                · cases g1
                · rename_i news s1 hr
                  have hk1 := grow_mono g1 g2
                  obtain ⟨_, _, q3, q4⟩ := guess_ok hg (src_mono hr hk1)
                  exact ⟨(ad, news, s1), rfl, s0, q3, q4, hr, hk1, g1⟩
            · rename_i s0 hg
              have := (guess_ok hg (same_mono g1 g2)).2.1
              rw [hm'] at this
              cases this)
          obtain ⟨hsa, s00, c00, h00, b1, b2, _⟩ := hf1 _ hA0
          have hads : ∀ ν, Ag D ν → (f ν).1 = (f (fun k => (D k).getD 0)).1 := fun ν hν => by
            have := (hf1 ν hν).1
            rw [hsa] at this
            exact (Option.some.inj this).symm
          have hI0 : Inv C B w s00 := (hfam.inv _ hA0).of_cells c00 h00
          obtain ⟨_, _, l2, l3, l4⟩ := src_world hI0 b1 b2
          have hnews : ∀ ν, Ag D ν → (f ν).2.1 = (f (fun k => (D k).getD 0)).2.1 := fun ν hν => by
            obtain ⟨_, s0, q1, q2, a1, a2, _⟩ := hf1 ν hν
            obtain ⟨_, _, l1, _, w1⟩ := src_world ((hfam.inv ν hν).of_cells q1 q2) a1 a2
            refine List.ext_getElem (l1.trans l2.symm) (fun j hj hj' => ?_)
            have h5 := w1 j _ (List.getElem?_eq_getElem hj)
            rw [hads ν hν] at h5
            have := h5.symm.trans (l4 j _ (List.getElem?_eq_getElem hj'))
            simpa using this
          have hfam2 : Fam C B D w (fun ν => (f ν).2.2) := hfam.of_cells fun ν hν => by
            obtain ⟨_, s0, q1, q2, a1, a2, _⟩ := hf1 ν hν
            obtain ⟨q3, q4, _⟩ := src_world ((hfam.inv ν hν).of_cells q1 q2) a1 a2
            exact ⟨q3.trans q1, q4.trans q2⟩
          obtain ⟨y, w', D', hr, r2⟩ := grow_sound (P := P) (ty := type) (c := cap) hB hf hfam2 hel (s := eval s) (ad := (f (fun k => (D k).getD 0)).1) l2 l4 l3 hm (v := v) (st' := st')
            (fun ν hν => ⟨by rw [← hnews ν hν]; obtain ⟨_, _, _, _, _, _, g⟩ := hf1 ν hν; exact g, (h ν hν).2⟩)
          exact ⟨y, w', D', hrun y w' (by rw [hsa]; exact hr), r2⟩
        · have hm0 : m = 0 := by omega
          subst hm0
          have key1 : ∀ ν, Ag D ν → v ν = eval s ∧ (st' ν).cells = (st ν).cells ∧ (∃ n xs, w.ownsRow 0 e i.size (eval s) n xs) ∧ ∃ idx todo, S.vec key (st ν).shapes.vecs (blkOf (eval s)) (st ν).shapes.todo = some (idx, todo) ∧ (st' ν).shapes = { (st ν).shapes with todo := todo } := fun ν hν => by
            obtain ⟨g1, g2⟩ := h ν hν
            unfold vecE at g1
            simp only [hc1, hc2, hc3, ht, hel, hx] at g1
            split at g1
            · cases g1
            · rename_i s0 hg
              split at g1
              · cases g1
              · split at g1
                · cases g1
                · rename_i hr
                  have := (guess_ok hg (src_mono hr (grow_mono g1 g2))).2.1
                  cases this
            · rename_i s0 hg
              obtain ⟨_, _, q3, q4⟩ := guess_ok hg (same_mono g1 g2)
              unfold sameE at g1
              split at g1
              · cases g1
              · rename_i idx todo hv
                split at g1
                · rename_i y hy
                  split at g1
                  · rename_i hb
                    simp only [Bool.and_eq_true, Nat.beq_eq] at hb
                    simp only [Option.some.injEq, Prod.mk.injEq] at g1
                    obtain ⟨g3, g4⟩ := g1
                    rw [← g4] at g2 ⊢
                    have he := g2.eqs _ (List.mem_cons_self ..)
                    simp only at he
                    have hown := (hfam.inv ν hν).vec y (by rw [← q4]; exact List.mem_of_getElem? (nth_eq _ _ ▸ hy))
                    rw [hb.1, hb.2, ← he] at hown
                    exact ⟨g3.symm, q3, ⟨_, _, hown⟩, idx, todo, by rw [← q4]; exact hv, by simp only [q4]⟩
                  · cases g1
                · simp only [Option.some.injEq, Prod.mk.injEq] at g1
                  obtain ⟨g3, g4⟩ := g1
                  rw [← g4] at g2 ⊢
                  have he := g2.eqs _ (List.mem_cons_self ..)
                  simp only at he
                  exact ⟨g3.symm, q3, ⟨0, [], by rw [he]; exact World.ownsRow_nil ..⟩, idx, todo, by rw [← q4]; exact hv, by simp only [q4]⟩
          obtain ⟨_, _, ⟨n0, xs0, hown⟩, _⟩ := key1 _ hA0
          obtain ⟨ht', hi', _⟩ := elemOf_ok hel
          refine ⟨eval s, w, D, hrun _ _ (run_append_zero ht' hi' hown sa cap), Dom.Ext.refl _ _, fun ν hν => (key1 ν hν).1, ⟨fun ν hν => ?_, fun ν ν' hν hν' => ?_⟩, Sub.refl _ _⟩
          · obtain ⟨_, q1, _, idx, todo, _, q2⟩ := key1 ν hν
            have hi0 := hfam.inv ν hν
            have : Inv C B w { (st ν) with shapes := { (st ν).shapes with todo := todo } } := ⟨hi0.cell, hi0.free, hi0.dist, hi0.shp, hi0.lt, hi0.slt, hi0.own, hi0.vec, hi0.vsep, hi0.vdist, hi0.sfresh, hi0.sdist, hi0.ro⟩
            exact this.of_cells q1 q2
          · obtain ⟨_, q1, _, idx, todo, q3, q2⟩ := key1 ν hν
            obtain ⟨_, q1', _, idx', todo', q3', q2'⟩ := key1 ν' hν'
            obtain ⟨u1, u2⟩ := hfam.uni ν ν' hν hν'
            rw [← u2, q3] at q3'
            simp only [Option.some.injEq, Prod.mk.injEq] at q3'
            obtain ⟨_, rfl⟩ := q3'
            exact ⟨q1.trans (u1.trans q1'.symm), by rw [q2, q2', u2]⟩
      · cases h0
    · cases h0
  · rename_i t len cap heq
    simp only at heq
    subst heq
    split at h0
    · rename_i e i z kl l kc c hel hlen hcap
      clear h0
      obtain ⟨ht, hi, hz, hzs, hsz⟩ := elemOf_ok hel
      have key1 : ∀ ν, Ag D ν → 0 ≤ l ∧ i.bytes * l.toNat ≤ 281474976710656 ∧ l.toNat ≤ maxLen ∧ l = c ∧ v ν = .slice (some ⟨ν (0 :: key), 0, none⟩) l.toNat l.toNat ∧ (st' ν).cells = (st ν).cells ∧
          (st' ν).shapes = { (st ν).shapes with vecs := (st ν).shapes.vecs ++ [⟨e, i.size, .slice (some ⟨ν (0 :: key), 0, none⟩) l.toNat l.toNat, l.toNat, (madeCells z.cells (l.toNat * i.size)).toList⟩] } := fun ν hν => by
        obtain ⟨g1, g2⟩ := h ν hν
        unfold vecE at g1
        simp only [hel, hlen, hcap] at g1
        split at g1
        · rename_i s1 hg1
          split at g1
          · rename_i s2 hg2
            split at g1
            · rename_i s3 hg3
              simp only [Option.some.injEq, Prod.mk.injEq] at g1
              obtain ⟨e1, e2⟩ := g1
              rw [← e2] at g2 ⊢
              obtain ⟨k1, k2, k3, k4⟩ := guess_ok hg3 ⟨fun p hp => g2.eqs p (List.mem_cons_of_mem _ hp), g2.conds⟩
              obtain ⟨j1, j2, j3, j4⟩ := guess_ok hg2 k1
              obtain ⟨i1, i2, i3, i4⟩ := guess_ok hg1 j1
              have := g2.eqs _ (List.mem_cons_self ..)
              simp only [Value.int.injEq, true_and] at this
              refine ⟨of_decide_eq_true i2, of_decide_eq_true j2, of_decide_eq_true k2, this, e1.symm, k3.trans (j3.trans i3), ?_⟩
              simp only [k4.trans (j4.trans i4)]
            · cases g1
          · cases g1
        · cases g1
      obtain ⟨hl0, hl1, hl2, rfl, _⟩ := key1 _ hA0
      obtain ⟨w', hr, ho, hg⟩ := run_make_full (P := P) w 0 t e i z i.size ht hi hz rfl kl kc l.toNat hl1 hl2 (Nat.zero_le _)
      rw [Int.toNat_of_nonneg hl0] at hr
      obtain ⟨hext, hag⟩ := two_put hf w.heap.size 0
      refine ⟨.slice (some ⟨w.heap.size, 0, none⟩) l.toNat l.toNat, w', _, ?_, hext, fun ν hν => ?_, ⟨fun ν hν => ?_, fun ν ν' hν hν' => ?_⟩, ?_⟩
      · unfold execOp
        simp only [hlen, hcap, Sem.run_bind, Sem.run_pure, Result.andThen_ok, hr]
      · obtain ⟨a1, a2, a3⟩ := hag ν hν
        rw [(key1 ν a1).2.2.2.2.1, a2]
      · obtain ⟨a1, a2, a3⟩ := hag ν hν
        obtain ⟨_, _, _, _, _, c1, c2⟩ := key1 ν a1
        have hI := hfam.inv ν a1
        have key2 := hI.grown hB hg (fun k hk => (by cases hk)) (x := ⟨e, i.size, .slice (some ⟨w.heap.size, 0, none⟩) l.toNat l.toNat, l.toNat, (madeCells z.cells (l.toNat * i.size)).toList⟩) (g := w.heap.size) ho rfl (.inr rfl)
          (vs := (st ν).shapes.vecs ++ [⟨e, i.size, .slice (some ⟨w.heap.size, 0, none⟩) l.toNat l.toNat, l.toNat, (madeCells z.cells (l.toNat * i.size)).toList⟩]) (fun y hy => ?_) (List.pairwise_append.2 ⟨hI.vdist, List.pairwise_singleton .., fun y hy u hu k hk hk' => ?_⟩) (st ν).shapes.todo
        · refine key2.of_cells c1 ?_
          rw [c2, a2]
        · rcases List.mem_append.1 hy with hy | hy
          · refine .inr ⟨hy, ?_⟩
            cases hyb : y.v.ownBlock with
            | none => exact .inl rfl
            | some k => exact .inr (by intro hh; cases hh)
          · exact .inl (List.mem_singleton.1 hy)
        · rw [List.mem_singleton.1 hu] at hk'
          simp only [Value.ownBlock, Option.some.injEq] at hk'
          have := heap_lt_of_own (hI.vec y hy) hk
          omega
      · obtain ⟨a1, a2, a3⟩ := hag ν hν
        obtain ⟨b1, b2, b3⟩ := hag ν' hν'
        obtain ⟨_, _, _, _, _, c1, c2⟩ := key1 ν a1
        obtain ⟨_, _, _, _, _, d1, d2⟩ := key1 ν' b1
        obtain ⟨u1, u2⟩ := hfam.uni ν ν' a1 b1
        exact ⟨c1.trans (u1.trans d1.symm), by rw [c2, d2, a2, b2, u2]⟩
      · refine ⟨hg.os, hg.tape, hg.output, hg.size, fun k hk o hok => ?_, fun k hk c2 t2 f2 e2 => ?_⟩
        rotate_left
        · have hr2 := run_make (P := P) w t e i z ht hi hz kl kc l l hl0 (Int.le_refl _) (by
            have h : ((i.bytes * l.toNat : Nat) : Int) ≤ 281474976710656 := by omega
            rwa [Int.natCast_mul, Int.toNat_of_nonneg hl0] at h) (by have h := hl2; simp only [maxLen] at h; omega)
          rw [hr] at hr2
          simp only [Result.ok.injEq] at hr2
          rw [hr2.2] at e2
          have e3 : (w.heap.push (.cells (madeCells z.cells (l.toNat * i.size)) e (0, 0)))[k]? = some (.cells c2 t2 f2) := e2
          simp only [Array.getElem?_push] at e3
          split at e3
          · simp only [Option.some.injEq, Obj.cells.injEq] at e3; exact e3.2.2.symm
          · exact (no_block hk e3).elim
        have e := (hg.block k hk (by intro hh; cases hh)).trans hok
        cases o <;> first | exact e | exact ⟨_, e, rfl, fun _ _ => rfl⟩
    · cases h0
  · cases h0
end
end Go.Proofs.YtmihblocomnfjaaDoor.Sy
