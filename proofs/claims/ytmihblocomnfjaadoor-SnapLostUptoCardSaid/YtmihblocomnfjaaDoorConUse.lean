/- Contracts: how one is proved out of walks. -/
import Derived.Test.YtmihblocomnfjaaDoorSyWalk
set_option linter.unusedSimpArgs false
set_option linter.unusedVariables false
namespace Go.Proofs.YtmihblocomnfjaaDoor.Sy
open Go

/-- Cells that were looked at: what they hold; they are apart. -/
structure Looks (w : World) (l : List (Nat × Nat × Value)) : Prop where
  cell : ∀ x ∈ l, w.cell? ⟨x.1, x.2.1, none⟩ = some x.2.2 ∧ w.frozen? ⟨x.1, x.2.1, none⟩ = false
  apart : l.Pairwise (fun x y => ¬ (x.1 = y.1 ∧ x.2.1 = y.2.1))
def ads (l : List (Nat × Nat × Value)) : List Addr := l.map fun x => ⟨x.1, x.2.1, none⟩
theorem Looks.nil (w : World) : Looks w [] := ⟨by simp, List.Pairwise.nil⟩
theorem Looks.cons {w : World} {l : List (Nat × Nat × Value)} {b o : Nat} {v : Value} (h : Looks w l) (hn : (⟨b, o, none⟩ : Addr) ∉ ads l) (hc : w.cell? ⟨b, o, none⟩ = some v) (hf : w.frozen? ⟨b, o, none⟩ = false) : Looks w ((b, o, v) :: l) :=
  ⟨fun x hx => by
    rcases List.mem_cons.1 hx with rfl | hx
    · exact ⟨hc, hf⟩
    · exact h.cell x hx, List.pairwise_cons.2 ⟨fun x hx hh => hn (List.mem_map.2 ⟨x, hx, by rw [← hh.1, ← hh.2]⟩), h.apart⟩⟩
theorem Looks.met {w : World} {l : List (Nat × Nat × Value)} (h : Looks w l) : ({ loose := l } : Mem).Met w :=
  ⟨by simp, by simp, h.cell, h.apart, by simp, by simp, by simp, by simp, List.Pairwise.nil, by simp⟩

/-- Slices that were looked at: apart from the cells, from each other. -/
structure RowsOk (w : World) (l : List (Nat × Nat × Value)) (R : List Vec) : Prop where
  row : ∀ x ∈ R, w.ownsRow 0 x.e x.size x.v x.n x.xs
  off : ∀ x ∈ R, ∀ g, x.v.ownBlock = some g → ∀ y ∈ l, y.1 ≠ g
  dist : R.Pairwise (fun x y => ∀ g, x.v.ownBlock = some g → y.v.ownBlock ≠ some g)
theorem RowsOk.nil (w : World) (l : List (Nat × Nat × Value)) : RowsOk w l [] := ⟨by simp, by simp, List.Pairwise.nil⟩
theorem Looks.metR {w : World} {l : List (Nat × Nat × Value)} {R : List Vec} (h : Looks w l) (hr : RowsOk w l R) : ({ loose := l, vecs := R } : Mem).Met w :=
  ⟨by simp, by simp, h.cell, h.apart, by simp, by simp, hr.row, fun x hx g hg => ⟨by simp, hr.off x hx g hg, by simp⟩, hr.dist, by simp⟩

/-- A contract's proof under way: 'l', 'R' were looked at. -/
def ConGoal (P : Program) (f : FuncId) (args : Array Value) (w : World) (l : List (Nat × Nat × Value)) (R : List Vec) (c : CP) : Prop :=
  Looks w l → RowsOk w l R → c.Pre w (ads l) R → Calls P f args w fun e w' => c.Out w e w' R

section
variable {P : Program} {f : FuncId} {args : Array Value} {w : World} {l : List (Nat × Nat × Value)} {b o : Nat} {R : List Vec}

theorem good_fail : ConGoal P f args w l R .fail := fun _ _ h => h.elim
theorem good_load {k : Value → CP} (h : ∀ v, ConGoal P f args w ((b, o, v) :: l) R (k v)) : ConGoal P f args w l R (.load ⟨b, o, none⟩ k) := fun hl hr hp => by
  obtain ⟨h1, h0, v, h2, h3, h4⟩ := hp
  refine (h v (hl.cons h1 h2 h3) ⟨hr.row, fun x hx g hg y hy => ?_, hr.dist⟩ h4).mono fun e w' ho => ⟨v, h2, ho⟩
  rcases List.mem_cons.1 hy with rfl | hy
  · exact fun e1 => h0 x hx (by rw [hg]; simp only at e1; rw [e1])
  · exact hr.off x hx g hg y hy
theorem good_row {v : Value} {e size : Nat} {k : Nat → List Value → CP} (h : ∀ n xs, ConGoal P f args w l (⟨e, size, v, n, xs⟩ :: R) (k n xs)) : ConGoal P f args w l R (.row v e size k) := fun hl hr hp => by
  obtain ⟨n, xs, h1, h2, h3⟩ := hp
  refine (h n xs hl ⟨fun x hx => ?_, fun x hx g hg y hy => ?_, List.pairwise_cons.2 ⟨fun x hx g hg => (h2 g hg).2 x hx, hr.dist⟩⟩ h3).mono fun e w' ho => ⟨n, xs, h1, ho⟩
  · rcases List.mem_cons.1 hx with rfl | hx
    · exact h1
    · exact hr.row x hx
  · rcases List.mem_cons.1 hx with rfl | hx
    · exact (h2 g hg).1 ⟨y.1, y.2.1, none⟩ (List.mem_map.2 ⟨y, hy, rfl⟩)
    · exact hr.off x hx g hg y hy
theorem good_test {g : Bool} {k : Bool → CP} (h : ConGoal P f args w l R (k g)) : ConGoal P f args w l R (.test g k) := fun hl hr hp => h hl hr hp
theorem good_doneR {n : Nat} {z : List Nat → Ends} (h : Looks w l → RowsOk w l R → Calls P f args w fun e w' => ∃ ls : List Nat, ls.length = n ∧ e = .returned (z ls).res ∧ (z ls).Met ls R w w') : ConGoal P f args w l R (.done n z) := fun hl hr _ => h hl hr
theorem good_done {n : Nat} {z : List Nat → Ends} (h : Looks w l → Calls P f args w fun e w' => ∃ ls : List Nat, ls.length = n ∧ e = .returned (z ls).res ∧ (z ls).Met ls R w w') : ConGoal P f args w l R (.done n z) := fun hl _ _ => h hl

def loadPtr (a : Addr) (k : Nat → CP) : CP := .load a fun v => match v with
  | .pointer (some ⟨b, 0, none⟩) => k b
  | _ => .fail
def loadSl (a : Addr) (k : Nat → Nat → Nat → CP) : CP := .load a fun v => match v with
  | .slice (some ⟨b, 0, none⟩) n c => k b n c
  | _ => .fail
def loadI64 (a : Addr) (k : Int → CP) : CP := .load a fun v => match v with
  | .int .i64 z => k z
  | _ => .fail
def loadU64 (a : Addr) (k : Int → CP) : CP := .load a fun v => match v with
  | .int .u64 z => k z
  | _ => .fail
def loadU8 (a : Addr) (k : Int → CP) : CP := .load a fun v => match v with
  | .int .u8 z => k z
  | _ => .fail
def loadBool (a : Addr) (k : Bool → CP) : CP := .load a fun v => match v with
  | .bool z => k z
  | _ => .fail
def loadF64 (a : Addr) (k : Nat → CP) : CP := .load a fun v => match v with
  | .float .f64 z => k z
  | _ => .fail
def needs (g : Bool) (k : CP) : CP := .test g fun x => match x with
  | true => k
  | false => .fail
/-- Bools that never change. -/
def loadsB (b : Nat) : List (Nat × Bool) → CP → CP
  | [], k => k
  | x :: r, k => loadBool ⟨b, x.1, none⟩ fun y => match y, x.2 with
    | true, true => loadsB b r k
    | false, false => loadsB b r k
    | _, _ => .fail

theorem good_ptr {k : Nat → CP} (h : ∀ p, ConGoal P f args w ((b, o, .pointer (some ⟨p, 0, none⟩)) :: l) R (k p)) : ConGoal P f args w l R (loadPtr ⟨b, o, none⟩ k) := good_load fun v => by
  split
  · exact h _
  · exact good_fail
theorem good_sl {k : Nat → Nat → Nat → CP} (h : ∀ p n c, ConGoal P f args w ((b, o, .slice (some ⟨p, 0, none⟩) n c) :: l) R (k p n c)) : ConGoal P f args w l R (loadSl ⟨b, o, none⟩ k) := good_load fun v => by
  split
  · exact h _ _ _
  · exact good_fail
theorem good_i64 {k : Int → CP} (h : ∀ z, ConGoal P f args w ((b, o, .int .i64 z) :: l) R (k z)) : ConGoal P f args w l R (loadI64 ⟨b, o, none⟩ k) := good_load fun v => by
  split
  · exact h _
  · exact good_fail
theorem good_u64 {k : Int → CP} (h : ∀ z, ConGoal P f args w ((b, o, .int .u64 z) :: l) R (k z)) : ConGoal P f args w l R (loadU64 ⟨b, o, none⟩ k) := good_load fun v => by
  split
  · exact h _
  · exact good_fail
theorem good_u8 {k : Int → CP} (h : ∀ z, ConGoal P f args w ((b, o, .int .u8 z) :: l) R (k z)) : ConGoal P f args w l R (loadU8 ⟨b, o, none⟩ k) := good_load fun v => by
  split
  · exact h _
  · exact good_fail
theorem good_bool {k : Bool → CP} (h : ∀ z, ConGoal P f args w ((b, o, .bool z) :: l) R (k z)) : ConGoal P f args w l R (loadBool ⟨b, o, none⟩ k) := good_load fun v => by
  split
  · exact h _
  · exact good_fail
theorem good_f64 {k : Nat → CP} (h : ∀ z, ConGoal P f args w ((b, o, .float .f64 z) :: l) R (k z)) : ConGoal P f args w l R (loadF64 ⟨b, o, none⟩ k) := good_load fun v => by
  split
  · exact h _
  · exact good_fail
theorem good_needs {g : Bool} {k : CP} (h : g = true → ConGoal P f args w l R k) : ConGoal P f args w l R (needs g k) := good_test (by
  cases g with
  | true => exact h rfl
  | false => exact good_fail)
def bools (b : Nat) : List (Nat × Bool) → List (Nat × Nat × Value) → List (Nat × Nat × Value)
  | [], l => l
  | x :: r, l => bools b r ((b, x.1, .bool x.2) :: l)
theorem good_bools {k : CP} : ∀ {bs : List (Nat × Bool)} {l : List (Nat × Nat × Value)}, ConGoal P f args w (bools b bs l) R k → ConGoal P f args w l R (loadsB b bs k)
  | [], _, h => h
  | x :: r, l, h => good_bool fun z => by
    split
    · rename_i h2
      simp only [bools, h2] at h
      exact good_bools h
    · rename_i h2
      simp only [bools, h2] at h
      exact good_bools h
    · exact good_fail

/-- Of the cells that were known: which are written, and what. -/
inductive Kept : List (Nat × Nat × Value) → List (Nat × Nat × Value) → List (Nat × Nat × Value) → Prop
  | nil : Kept [] [] []
  | keep {x : Nat × Nat × Value} {a b c : List (Nat × Nat × Value)} : Kept a b c → Kept (x :: a) (x :: b) c
  | set {k i : Nat} {u v : Value} {a b c : List (Nat × Nat × Value)} : Kept a b c → Kept ((k, i, u) :: a) ((k, i, v) :: b) ((k, i, v) :: c)
theorem Kept.same : ∀ (a : List (Nat × Nat × Value)), Kept a a []
  | [] => .nil
  | _ :: r => .keep (Kept.same r)
theorem Kept.st {a b c : List (Nat × Nat × Value)} (h : Kept a b c) : ∀ x ∈ c, x ∈ b := by
  induction h with
  | nil => simp
  | keep _ ih => exact fun x hx => List.mem_cons_of_mem _ (ih x hx)
  | set _ ih => exact fun x hx => (List.mem_cons.1 hx).elim (fun e => by rw [e]; exact List.mem_cons_self ..) (fun hx => List.mem_cons_of_mem _ (ih x hx))
theorem Kept.old {a b c : List (Nat × Nat × Value)} (h : Kept a b c) : ∀ y ∈ a, (∃ x ∈ c, x.1 = y.1 ∧ x.2.1 = y.2.1) ∨ y ∈ b := by
  induction h with
  | nil => simp
  | keep _ ih =>
    intro y hy
    rcases List.mem_cons.1 hy with rfl | hy
    · exact .inr (List.mem_cons_self ..)
    · exact (ih y hy).imp id (List.mem_cons_of_mem _)
  | set _ ih =>
    intro y hy
    rcases List.mem_cons.1 hy with rfl | hy
    · exact .inl ⟨_, List.mem_cons_self .., rfl, rfl⟩
    · exact (ih y hy).imp (fun ⟨x, hx, e⟩ => ⟨x, List.mem_cons_of_mem _ hx, e⟩) (List.mem_cons_of_mem _)

/-- Less was changed than might have been. -/
theorem Sub.less {C C' : Nat → Nat → Prop} {w w' : World} (h : Sub C w w') (hk : ∀ k i, C k i → k < w.heap.size → C' k i ∨ w'.cell? ⟨k, i, none⟩ = w.cell? ⟨k, i, none⟩) : Sub C' w w' := by
  refine ⟨h.os, h.tape, h.output, h.size, fun k hl o ho => ?_, h.fresh⟩
  have a := h.block k hl o ho
  cases o with
  | cells c t f =>
    obtain ⟨c1, e1, s1, r1⟩ := a
    refine ⟨c1, e1, s1, fun i hi => ?_⟩
    by_cases hc : C k i
    · have := (hk k i hc hl).resolve_left hi
      simpa [World.cell?, ho, e1] using this
    · exact r1 i hc
  | _ => exact a

theorem nodup_at : ∀ {l : List Nat} {i j b : Nat}, l.Nodup → l[i]? = some b → l[j]? = some b → i = j
  | x :: r, 0, 0, _, _, _, _ => rfl
  | x :: r, 0, j + 1, b, h, h1, h2 => by
    simp only [List.getElem?_cons_zero, Option.some.injEq] at h1
    simp only [List.getElem?_cons_succ] at h2
    subst h1
    exact absurd (List.mem_of_getElem? h2) (List.nodup_cons.1 h).1
  | x :: r, i + 1, 0, b, h, h1, h2 => by
    simp only [List.getElem?_cons_zero, Option.some.injEq] at h2
    simp only [List.getElem?_cons_succ] at h1
    subst h2
    exact absurd (List.mem_of_getElem? h1) (List.nodup_cons.1 h).1
  | x :: r, i + 1, j + 1, b, h, h1, h2 => by
    simp only [List.getElem?_cons_succ] at h1 h2
    rw [nodup_at (List.nodup_cons.1 h).2 h1 h2]

theorem post_met {left : Left} {z : Ends} {ls : List Nat} {w' : World} (hl : Looks w l) (hr : RowsOk w l R) (hp : ({ loose := l, vecs := R } : Mem).Post w left w') (hk : Kept l left.loose z.st) (hn : z.news = left.news.map Prod.snd) (hv : left.vecs = rowsNow z.sets 0 R ++ z.vecs) (hls : ls.take left.news.length = left.news.map Prod.fst)
    (hfr : ∀ x ∈ z.vecs, ∀ g, x.v.ownBlock = some g → ∀ y ∈ R, y.v.ownBlock ≠ some g) : z.Met ls R w w' := by
  have hnl : z.news.length = left.news.length := by rw [hn]; simp
  have hget : ∀ i, i < z.news.length → ls[i]? = (left.news.map Prod.fst)[i]? := fun i hi => by rw [← hls, List.getElem?_take_of_lt (by omega)]
  have hzv : ∀ x ∈ z.vecs, x ∈ left.vecs := fun x hx => by rw [hv]; exact List.mem_append_right _ hx
  refine ⟨fun x hx => (hp.loose x (hk.st x hx)).1, fun i x hx => ?_, fun i j b hi hj h1 h2 => ?_, fun x hx => hp.vecs x (hzv x hx), fun x hx g hg => ⟨?_, fun i hi hh => ?_⟩, ?_, fun x hx => hp.vecs x (by rw [hv]; exact List.mem_append_left _ hx), hp.sub.less fun k i hc _ => ?_⟩
  · have hi : i < z.news.length := (List.getElem?_eq_some_iff.1 hx).1
    rw [hn, List.getElem?_map] at hx
    obtain ⟨y, hy, rfl⟩ := Option.map_eq_some_iff.1 hx
    refine ⟨y.1, by rw [hget i hi, List.getElem?_map, hy]; rfl, ?_⟩
    exact hp.news y (List.mem_of_getElem? hy)
  · rw [hget i hi] at h1
    rw [hget j hj] at h2
    exact nodup_at hp.nnew h1 h2
  · rcases hp.vold x (hzv x hx) g hg with ⟨y, hy, hy'⟩ | h
    · exact absurd hy' (hfr x hx g hg y hy)
    · exact h
  · rw [hget i hi] at hh
    exact hp.vnews x (hzv x hx) g hg (List.mem_of_getElem? hh)
  · have := hp.vdist
    rw [hv] at this
    exact (List.pairwise_append.1 this).2.1
  · rcases hc with ⟨c, hm, rfl, rfl⟩ | ⟨x, hx, e⟩
    · rcases mem_cellsOf hm with ⟨x, hx, _⟩ | hm
      · cases hx
      · obtain ⟨y, hy, rfl⟩ := mem_looseCells hm
        rcases hk.old y hy with ⟨x, hx, e1, e2⟩ | hy'
        · exact .inl (.inl ⟨x, hx, e1, e2⟩)
        · exact .inr ((hp.loose y hy').1.trans (hl.cell y hy).1.symm)
    · exact .inl (.inr ⟨x, hx, e⟩)

/-- The end of a contract's proof: a walk. -/
theorem good_walkR (H : Host P) {c : Case} (nt : Notes) {r : (Key → Nat) → Value × Left} (h1 : ∀ ν, (c.run H nt ν).map Prod.fst = some (r ν)) (h2 : ∀ ν, (c.run H nt ν).map lefts = (c.run H nt ν).map rights) (hc : ∀ ν, ∀ p ∈ (r ν).2.conds, p.1 = p.2)
    {n : Nat} {z : List Nat → Ends} (hm : c.mem = { loose := l, vecs := R }) (hl : Looks w l) (hr : RowsOk w l R)
    (hz : ∀ ν, ∃ ls : List Nat, ls.length = n ∧ ls.take (r ν).2.news.length = (r ν).2.news.map Prod.fst ∧ (z ls).res = (r ν).1 ∧ Kept l (r ν).2.loose (z ls).st ∧ (z ls).news = (r ν).2.news.map Prod.snd ∧ (r ν).2.vecs = rowsNow (z ls).sets 0 R ++ (z ls).vecs) :
    Calls P c.f c.args w fun e w' => ∃ ls : List Nat, ls.length = n ∧ e = .returned (z ls).res ∧ (z ls).Met ls R w w' :=
  (Case.calls H c nt h1 h2 hc (w := w) (by rw [hm]; exact hl.metR hr)).mono fun e w' ⟨ν, he, hp⟩ => by
    obtain ⟨ls, g1, g2, g3, g4, g5, g6⟩ := hz ν
    rw [hm] at hp
    refine ⟨ls, g1, by rw [he, g3], post_met hl hr hp g4 g5 g6 g2 (fun x hx g hg y hy => ?_)⟩
    have := hp.vdist
    rw [g6] at this
    obtain ⟨i, hi⟩ := List.mem_iff_getElem?.1 hy
    exact fun hg' => (List.pairwise_append.1 this).2.2 _ (rowsNow_mem (sets := (z ls).sets) (j := 0) hi) x hx g hg' hg
theorem good_walk (H : Host P) {c : Case} (nt : Notes) {r : (Key → Nat) → Value × Left} (h1 : ∀ ν, (c.run H nt ν).map Prod.fst = some (r ν)) (h2 : ∀ ν, (c.run H nt ν).map lefts = (c.run H nt ν).map rights) (hc : ∀ ν, ∀ p ∈ (r ν).2.conds, p.1 = p.2)
    {n : Nat} {z : List Nat → Ends} (hm : c.mem = { loose := l }) (hl : Looks w l)
    (hz : ∀ ν, ∃ ls : List Nat, ls.length = n ∧ ls.take (r ν).2.news.length = (r ν).2.news.map Prod.fst ∧ (z ls).res = (r ν).1 ∧ Kept l (r ν).2.loose (z ls).st ∧ (z ls).news = (r ν).2.news.map Prod.snd ∧ (z ls).vecs = (r ν).2.vecs) :
    Calls P c.f c.args w fun e w' => ∃ ls : List Nat, ls.length = n ∧ e = .returned (z ls).res ∧ (z ls).Met ls [] w w' :=
  good_walkR (R := []) H nt h1 h2 hc hm hl (RowsOk.nil w l) fun ν => by
    obtain ⟨ls, g1, g2, g3, g4, g5, g6⟩ := hz ν
    exact ⟨ls, g1, g2, g3, g4, g5, by rw [g6]; rfl⟩
theorem con_ok {P : Program} {c : Contract} {l : List Contract} (h : c.Ok P) (hl : ∀ c ∈ l, c.Ok P) : ∀ c' ∈ c :: l, c'.Ok P := fun c' hc => by
  rcases List.mem_cons.1 hc with rfl | hc
  · exact h
  · exact hl c' hc
theorem con_nil {P : Program} : ∀ c' ∈ ([] : List Contract), c'.Ok P := fun _ h => by cases h
theorem con_start {P : Program} {f : FuncId} {p : Array Value → CP} (h : ∀ args w, ConGoal P f args w [] [] (p args)) : (⟨f, p⟩ : Contract).Ok P := fun args w hp => h args w (Looks.nil w) (RowsOk.nil w []) hp
theorem args_of {args : Array Value} {l : List Value} (h : args.toList = l) : args = l.toArray := by cases args; simp_all
end
theorem wrap_i64 {x : Int} (h : -9223372036854775808 ≤ x) (h' : x ≤ 9223372036854775807) : IntKind.i64.wrap x = x := by
  unfold IntKind.wrap
  simp only [IntKind.bits, IntKind.signed]
  have e1 : (2 ^ (64 - 1) : Int) = 9223372036854775808 := by decide
  have e2 : (2 ^ 64 : Int) = 18446744073709551616 := by decide
  simp only [Bool.true_and, decide_eq_true_eq, e1, e2]
  split <;> omega
theorem wrap_u64 {x : Int} (h : 0 ≤ x) (h' : x ≤ 18446744073709551615) : IntKind.u64.wrap x = x := by
  unfold IntKind.wrap
  simp only [IntKind.bits, IntKind.signed]
  simp only [Bool.false_and, Bool.false_eq_true, if_false]
  omega
end Go.Proofs.YtmihblocomnfjaaDoor.Sy
