/- A walk that the kernel carries out: a region that draws its order. -/
import Derived.Test.YtmihblocomnfjaaDoorSyRun
set_option linter.unusedSimpArgs false
set_option linter.unusedVariables false
namespace Go.Proofs.YtmihblocomnfjaaDoor.Sy
open Go

def maskCells : List Bool → List Cell → List Cell
  | _, [] => []
  | [], cs => cs
  | b :: bs, c :: cs => match b with
    | true => { c with v := none } :: maskCells bs cs
    | false => c :: maskCells bs cs

def cellVal (c : Cell) (v : Value) : Value := .tuple #[addr c.b c.o, v]

/-- The cells that were there ahead: the last ones. -/
def lastOf (_ now : List Cell) : List Cell := now
/-- What is not masked is as it was. -/
def keepEqs : List Cell → List Cell → Option (List (Value × Value))
  | [], _ => some []
  | _ :: _, [] => none
  | c :: m, d :: now => match keyEq c.key d.key with
    | false => keepEqs (c :: m) now
    | true => match c.v with
      | none => keepEqs m now
      | some v => match d.v with
        | none => none
        | some u => match keepEqs m now with
          | none => none
          | some l => some ((cellVal c v, cellVal d u) :: l)

theorem keyEq_eq : ∀ {a b : List Nat}, keyEq a b = true → a = b
  | [], [], _ => rfl
  | [], _ :: _, h => by simp [keyEq] at h
  | _ :: _, [], h => by simp [keyEq] at h
  | a :: r, b :: s, h => by
    simp only [keyEq, Bool.and_eq_true, Nat.beq_eq] at h
    rw [h.1, keyEq_eq h.2]

def sameCells : List Cell → List Cell → Option (List (Value × Value))
  | [], [] => some []
  | c :: m, d :: now => match c.v, d.v, keyEq c.key d.key with
    | some v, some u, true => match sameCells m now with
      | none => none
      | some l => some ((cellVal c v, cellVal d u) :: l)
    | _, _, _ => none
  | _, _ => none
def sameShapes : List (Nat × TypeId × Nat × Key) → List (Nat × TypeId × Nat × Key) → Option (List (Value × Value))
  | [], [] => some []
  | c :: m, d :: now => match Nat.beq c.2.1 d.2.1 && Nat.beq c.2.2.1 d.2.2.1 && keyEq c.2.2.2 d.2.2.2 with
    | true => match sameShapes m now with
      | none => none
      | some l => some ((addr c.1 0, addr d.1 0) :: l)
    | false => none
  | _, _ => none
def sameVecs : List Vec → List Vec → Option (List (Value × Value))
  | [], [] => some []
  | c :: m, d :: now => match Nat.beq c.e d.e && Nat.beq c.size d.size with
    | true => match sameVecs m now with
      | none => none
      | some l => some ((.tuple #[c.v, addr c.n 0, .tuple c.xs.toArray], .tuple #[d.v, addr d.n 0, .tuple d.xs.toArray]) :: l)
    | false => none
  | _, _ => none
def sameRos : List Ro → List Ro → Option (List (Value × Value))
  | [], [] => some []
  | c :: m, d :: now => match sameRos m now with
    | none => none
    | some l => some ((.tuple #[.pointer (some c.a), .tuple c.xs.toArray], .tuple #[.pointer (some d.a), .tuple d.xs.toArray]) :: l)
  | _, _ => none
theorem sameRos_eq : ∀ {m now : List Ro} {l : List (Value × Value)}, sameRos m now = some l → (∀ p ∈ l, p.1 = p.2) → m = now
  | [], [], _, _, _ => rfl
  | [], _ :: _, _, h, _ => by simp [sameRos] at h
  | _ :: _, [], _, h, _ => by simp [sameRos] at h
  | c :: m, d :: now, l, h, hl => by
    simp only [sameRos] at h
    split at h
    · cases h
    · rename_i l' hl'
      simp only [Option.some.injEq] at h
      subst h
      have := hl _ (List.mem_cons_self ..)
      simp at this
      have hr := sameRos_eq hl' (fun p hp => hl p (List.mem_cons_of_mem _ hp))
      rw [hr]
      obtain ⟨a, xs⟩ := c
      obtain ⟨a', xs'⟩ := d
      simp only at this
      rw [this.1, this.2]
def sameTodo : List (Key × Nat) → List (Key × Nat) → Bool
  | [], [] => true
  | a :: r, b :: s => keyEq a.1 b.1 && Nat.beq a.2 b.2 && sameTodo r s
  | _, _ => false
def Shapes.bare (s : Shapes) : Shapes := { s with vecs := [] }
def sameEnv (env env' : Env) : Nat → List (Value × Value)
  | 0 => []
  | n + 1 => (get env n, get env' n) :: sameEnv env env' n
def sameEqs (n : Nat) (env : Env) (st : St) (env' : Env) (st' : St) : Option (List (Value × Value)) :=
  match sameTodo st.shapes.todo st'.shapes.todo with
  | true => (match sameCells st.cells st'.cells, sameShapes st.shapes.l st'.shapes.l, sameVecs st.shapes.vecs st'.shapes.vecs, sameRos st.shapes.ros st'.shapes.ros with
    | some l, some l', some l'', some l3 => some (l ++ l' ++ l'' ++ l3 ++ sameEnv env env' n)
    | _, _, _, _ => none)
  | false => none

/-- The two newest slices, the last ones, change places. -/
def swap2 : List Vec → List Vec
  | [] => []
  | a :: r => match r with
    | [b] => [b, a]
    | _ => a :: swap2 r
def St.swapV (st : St) : St := { st with shapes := { st.shapes with vecs := swap2 st.shapes.vecs } }
theorem swap2_perm : ∀ l : List Vec, (swap2 l).Perm l
  | [] => .refl _
  | [_] => .refl _
  | [a, b] => .swap a b []
  | a :: b :: c :: r => (swap2_perm (b :: c :: r)).cons a
theorem Inv.swap {C : Nat → Nat → Prop} {B : Nat} {w : World} {st : St} (h : Inv C B w st) : Inv C B w st.swapV :=
  { h with
    vec := fun x hx => h.vec x ((swap2_perm _).mem_iff.1 hx)
    vsep := fun x hx => h.vsep x ((swap2_perm _).mem_iff.1 hx)
    vdist := ((swap2_perm _).pairwise_iff (fun {_ _} h g hy hx => h g hx hy)).2 h.vdist }
theorem Fam.swap {C : Nat → Nat → Prop} {B : Nat} {D : Dom} {w : World} {st : (Key → Nat) → St} (h : Fam C B D w st) : Fam C B D w (fun ν => (st ν).swapV) :=
  ⟨fun ν hν => (h.inv ν hν).swap, fun ν ν' hν hν' => ⟨(h.uni ν ν' hν hν').1, by simp only [St.swapV]; rw [(h.uni ν ν' hν hν').2]⟩⟩
def fuzOk : List Nat → Bool
  | [] => true
  | i :: l => l.all (fun j => Nat.blt i j) && fuzOk l
/-- What these operations gave, a truth value each, is let go. -/
def fuzE (ν : Key → Nat) (ops : Array Oper) (n : Nat) (tp : Key) : List Nat → Env → Option Env
  | [], env => some env
  | i :: l, env => match ops[i]? with
    | none => none
    | some o => match o.dst with
      | none => none
      | some d => match Nat.blt d n with
        | false => none
        | true => match get env d with
          | .bool _ => fuzE ν ops n tp l ((d, .bool (Nat.beq (ν ((ops.size + i) :: tp)) 1)) :: env)
          | _ => none
theorem EnvOk.same {n : Nat} {env : Env} {a : Act} {d : Nat} {v : Value} (h : EnvOk n env a) (hv : d < n → a.tmps.getD d undef = v) : EnvOk n ((d, v) :: env) a := by
  refine ⟨fun t ht => ?_, h.size, h.defers⟩
  show _ = (match Nat.beq d t with | true => v | false => Sy.get env t)
  split
  · rename_i e
    have e := Nat.eq_of_beq_eq_true e
    subst e
    exact hv ht
  · exact h.get t ht
theorem fuz_dom {ops : Array Oper} {n : Nat} {tp : Key} {a : Act} : ∀ (l : List Nat) (D : Dom) (env env' : (Key → Nat) → Env), fuzOk l = true → (∀ i ∈ l, D ((ops.size + i) :: tp) = none) →
    (∀ ν, Ag D ν → EnvOk n (env ν) a) → (∀ ν, Ag D ν → fuzE ν ops n tp l (env ν) = some (env' ν)) → ∃ D', Dom.Ext tp D D' ∧ ∀ ν, Ag D' ν → EnvOk n (env' ν) a
  | [], D, env, env', _, _, hi, h => ⟨D, Dom.Ext.refl _ _, fun ν hν => by
      have := h ν hν
      simp only [fuzE, Option.some.injEq] at this
      rw [← this]; exact hi ν hν⟩
  | i :: l, D, env, env', ho, hf, hi, h => by
    simp only [fuzOk, Bool.and_eq_true, List.all_eq_true, Nat.blt_eq] at ho
    have h0 := h _ (Ag.some D)
    have i0 := hi _ (Ag.some D)
    simp only [fuzE] at h0
    split at h0
    · cases h0
    · rename_i o hoi
      split at h0
      · cases h0
      · rename_i d hd
        split at h0
        · cases h0
        · rename_i hdn
          split at h0
          · rename_i b hb
            have hdn' : d < n := by simpa using hdn
            have hy : a.tmps.getD d undef = .bool b := (i0.get d hdn').trans hb
            have hk : D ((ops.size + i) :: tp) = none := hf i (List.mem_cons_self ..)
            have hex : Dom.Ext tp D (D.put ((ops.size + i) :: tp) (cond b 1 0)) := ⟨fun k m hm => by
              unfold Dom.put
              split
              · rename_i e; rw [e, hk] at hm; cases hm
              · exact hm, fun k hk' => by
              unfold Dom.put
              split
              · rename_i e; rw [e] at hk'; exact absurd (List.suffix_cons _ _) hk'
              · rfl⟩
            obtain ⟨D', hD1, hD2⟩ := fuz_dom (ops := ops) l (D.put ((ops.size + i) :: tp) (cond b 1 0)) (fun ν => (d, .bool (Nat.beq (ν ((ops.size + i) :: tp)) 1)) :: env ν) env' ho.2 (fun j hj => by
                unfold Dom.put
                split
                · rename_i e
                  have := ho.1 j hj
                  simp only [List.cons.injEq, and_true] at e
                  omega
                · exact hf j (List.mem_cons_of_mem _ hj)) (fun ν hν => by
                obtain ⟨hν1, hν2⟩ := hν.of_put hk
                refine (hi ν hν1).same fun _ => hy.trans ?_
                rw [hν2]
                cases b <;> rfl) (fun ν hν => by
                obtain ⟨hν1, _⟩ := hν.of_put hk
                have h1 := h ν hν1
                have g1 : get (env ν) d = .bool b := ((hi ν hν1).get d hdn').symm.trans hy
                simp only [fuzE, hoi, hd, hdn, g1] at h1
                exact h1)
            exact ⟨D', hex.trans hD1, hD2⟩
          · cases h0
def isStop : Plan → Bool
  | .stop => true
  | _ => false

def altIdx : Plan → List Nat
  | .alt i _ q => i :: altIdx q
  | _ => []

def isAlt : Plan → Bool
  | .alt .. => true
  | _ => false

def planOk (ops : Array Oper) : Plan → Nat → Array Bool → Bool → Bool
  | .done, _, listed, _ => (Region.ready .any ops listed).isEmpty
  | .take i p, f + 1, listed, _ => (Region.ready .any ops listed).contains i && Region.free .any ops listed i && planOk ops p f (listed.setIfInBounds i true) true
  | .alt i p q, f + 1, listed, top => (!top || (Region.ready .any ops listed == i :: altIdx q)) && planOk ops p f (listed.setIfInBounds i true) true &&
      (isStop q || (isAlt q && planOk ops q (f + 1) listed false))
  | .swap p, f, listed, top => top && planOk ops p f listed true
  | .fuz l, _, listed, _ => (Region.ready .any ops listed).isEmpty && fuzOk l
  | _, _, _, _ => false

section
variable (S : Strat) (P : Program)
def drawnE (call : CallF) (ν : Key → Nat) (ops : Array Oper) (n : Nat) (tp : Key) (m : List Cell) (sh : Shapes) : Plan → Env → St → Option (Env × St)
  | .done, env, st => some (env, st)
  | .take i p, env, st => match ops[i]? with
    | none => none
    | some o => match takeE S P ops n env o { st with cells := m, shapes := sh } with
      | none => none
      | some (v, s1) => drawnE call ν ops n tp m sh p (putE n env o.dst v) { s1 with cells := st.cells, shapes := st.shapes }
  | .alt i p q, env, st => match ops[i]? with
    | none => none
    | some o => match opE S P call ν ops n (i :: tp) env o st with
      | none => none
      | some (v, s1) => match keepEqs m (lastOf m s1.cells) with
        | none => none
        | some eqs => match drawnE call ν ops n tp m sh p (putE n env o.dst v) { s1 with eqs := eqs ++ s1.eqs } with
          | none => none
          | some (env1, st1) => match isStop q with
            | true => some (env1, st1)
            | false => match drawnE call ν ops n tp m sh q env { st1 with cells := st.cells, shapes := st.shapes } with
              | none => none
              | some (env2, st2) => match sameEqs n env1 st1 env2 st2 with
                | none => none
                | some eqs => some (env1, { st2 with cells := st1.cells, shapes := st1.shapes, eqs := eqs ++ st2.eqs })
  | .swap p, env, st => drawnE call ν ops n tp m sh p env st.swapV
  | .fuz l, env, st => match fuzE ν ops n tp l env with
    | none => none
    | some env1 => some (env1, st)
  | .stop, _, _ => none
end

section
variable {S : Strat} {P : Program}

theorem mem_mask {c : Cell} : ∀ {bs : List Bool} {l : List Cell}, c ∈ maskCells bs l → ∃ d ∈ l, c.b = d.b ∧ c.o = d.o ∧ (c.v = none ∨ c.v = d.v)
  | _, [], h => by simp [maskCells] at h
  | [], d :: l, h => ⟨c, h, rfl, rfl, .inr rfl⟩
  | b :: bs, d :: l, h => by
    simp only [maskCells] at h
    split at h
    · rcases List.mem_cons.1 h with rfl | h
      · exact ⟨d, List.mem_cons_self .., rfl, rfl, .inl rfl⟩
      · obtain ⟨e, he, r⟩ := mem_mask h
        exact ⟨e, List.mem_cons_of_mem _ he, r⟩
    · rcases List.mem_cons.1 h with rfl | h
      · exact ⟨c, List.mem_cons_self .., rfl, rfl, .inr rfl⟩
      · obtain ⟨e, he, r⟩ := mem_mask h
        exact ⟨e, List.mem_cons_of_mem _ he, r⟩

theorem mask_dist : ∀ {bs : List Bool} {l : List Cell}, l.Pairwise Apart → (maskCells bs l).Pairwise Apart
  | _, [], _ => by simp [maskCells]
  | [], d :: l, h => h
  | b :: bs, d :: l, h => by
    rw [List.pairwise_cons] at h
    have : ∀ e ∈ maskCells bs l, Apart d e := fun e he => by
      obtain ⟨x, hx, h1, h2, _⟩ := mem_mask he
      unfold Apart
      rw [h1, h2]
      exact h.1 x hx
    simp only [maskCells]
    split
    · exact List.pairwise_cons.2 ⟨fun e he => this e he, mask_dist h.2⟩
    · exact List.pairwise_cons.2 ⟨fun e he => this e he, mask_dist h.2⟩

theorem Inv.mask {C : Nat → Nat → Prop} {B : Nat} {w : World} {st : St} (h : Inv C B w st) (bs : List Bool) : Inv C B w { st with cells := maskCells bs st.cells, shapes := st.shapes.bare } := by
  refine ⟨fun c hc v hv => ?_, fun c hc => ?_, mask_dist h.dist, h.shp, fun c hc => ?_, h.slt, fun c hc => ?_, fun x hx => (by cases hx), fun x hx => (by cases hx), List.Pairwise.nil, h.sfresh, h.sdist, h.ro⟩
  all_goals obtain ⟨d, hd, h1, h2, h3⟩ := mem_mask hc
  · rcases h3 with h3 | h3
    · rw [h3] at hv; cases hv
    · rw [h1, h2]; exact h.cell d hd v (h3 ▸ hv)
  · rw [h1, h2]; exact h.free d hd
  · rw [h1]; exact h.lt d hd
  · rw [h1, h2]; exact h.own d hd

theorem Sub.shape {C : Nat → Nat → Prop} {w w' : World} (h : Sub C w w') {r : Nat} (hr : r < w.heap.size) : w'.shape? r = w.shape? r := by
  have e : w.heap[r]? = some w.heap[r] := Array.getElem?_eq_getElem hr
  have := h.block r hr _ e
  generalize w.heap[r] = o at e this
  cases o with
  | cells c t f => obtain ⟨c', h1, h2, _⟩ := this; simp [World.shape?, e, h1, h2]
  | _ => simp only at this; simp [World.shape?, e, this]

theorem Sub.frozen {C : Nat → Nat → Prop} {w w' : World} (h : Sub C w w') {a : Addr} (hr : a.block < w.heap.size) : w'.frozen? a = w.frozen? a := by
  have e : w.heap[a.block]? = some w.heap[a.block] := Array.getElem?_eq_getElem hr
  have := h.block a.block hr _ e
  generalize w.heap[a.block] = o at e this
  cases o with
  | cells c t f => obtain ⟨c', h1, h2, _⟩ := this; simp [World.frozen?, e, h1]
  | _ => simp only at this; simp [World.frozen?, e, this]

theorem keep_sound : ∀ {m now : List Cell} {l : List (Value × Value)}, keepEqs m now = some l → (∀ p ∈ l, p.1 = p.2) → ∀ c ∈ m, ∀ v, c.v = some v → ∃ d ∈ now, c.b = d.b ∧ c.o = d.o ∧ d.v = some v
  | [], _, _, _, _, c, hc, _, _ => by cases hc
  | _ :: _, [], _, h, _, _, _, _, _ => by simp [keepEqs] at h
  | e :: m, d :: now, l, h, hl, c, hc, v, hv => by
    simp only [keepEqs] at h
    split at h
    · obtain ⟨x, hx, r⟩ := keep_sound h hl c hc v hv
      exact ⟨x, List.mem_cons_of_mem _ hx, r⟩
    split at h
    · rename_i he
      rcases List.mem_cons.1 hc with rfl | hc
      · rw [he] at hv; cases hv
      · obtain ⟨x, hx, r⟩ := keep_sound h hl c hc v hv
        exact ⟨x, List.mem_cons_of_mem _ hx, r⟩
    · rename_i u he
      split at h
      · cases h
      · rename_i u' hd
        split at h
        · cases h
        · rename_i l' hl'
          simp only [Option.some.injEq] at h
          subst h
          rcases List.mem_cons.1 hc with rfl | hc
          · have := hl _ (List.mem_cons_self ..)
            simp [cellVal, addr] at this
            rw [he] at hv
            cases hv
            exact ⟨d, List.mem_cons_self .., this.1.1, this.1.2, by rw [hd, this.2]⟩
          · obtain ⟨x, hx, r⟩ := keep_sound hl' (fun p hp => hl p (List.mem_cons_of_mem _ hp)) c hc v hv
            exact ⟨x, List.mem_cons_of_mem _ hx, r⟩

theorem Inv.kept {C : Nat → Nat → Prop} {B : Nat} {w w' : World} {m st : St} (hm : Inv C B w m) (hn : Inv C B w' st) {l : List (Value × Value)} (hk : keepEqs m.cells (lastOf m.cells st.cells) = some l)
    (hl : ∀ p ∈ l, p.1 = p.2) (hs : Sub (fun k i => C k i ∨ B ≤ k) w w') (hmv : m.shapes.vecs = []) : Inv C B w' m := by
  refine ⟨fun c hc v hv => ?_, fun c hc => ?_, hm.dist, fun s hx => ?_, fun c hc => Nat.lt_of_lt_of_le (hm.lt c hc) hs.size, fun s hx => Nat.lt_of_lt_of_le (hm.slt s hx) hs.size, hm.own, fun x hx => (by rw [hmv] at hx; cases hx), fun x hx => (by rw [hmv] at hx; cases hx), by rw [hmv]; exact List.Pairwise.nil, hm.sfresh, hm.sdist, fun r hr => (hm.ro r hr).sub hs⟩
  · obtain ⟨d, hd, h1, h2, h3⟩ := keep_sound hk hl c hc v hv
    rw [h1, h2]; exact hn.cell d hd v h3
  · rw [hs.frozen (hm.lt c hc)]; exact hm.free c hc
  · rw [hs.shape (hm.slt s hx)]; exact hm.shp s hx

theorem sameCells_eq : ∀ {m now : List Cell} {l : List (Value × Value)}, sameCells m now = some l → (∀ p ∈ l, p.1 = p.2) → m = now
  | [], [], _, _, _ => rfl
  | [], _ :: _, _, h, _ => by simp [sameCells] at h
  | _ :: _, [], _, h, _ => by simp [sameCells] at h
  | e :: m, d :: now, l, h, hl => by
    simp only [sameCells] at h
    split at h
    · rename_i v u he hd hk
      split at h
      · cases h
      · rename_i l' hl'
        simp only [Option.some.injEq] at h
        subst h
        have := hl _ (List.mem_cons_self ..)
        simp [cellVal, addr] at this
        have hr := sameCells_eq hl' (fun p hp => hl p (List.mem_cons_of_mem _ hp))
        have hk' := keyEq_eq hk
        rw [hr]
        obtain ⟨b, o, v1, k1⟩ := e
        obtain ⟨b', o', v2, k2⟩ := d
        simp only at he hd hk' this
        rw [he, hd, hk', this.1.1, this.1.2, this.2]
    · cases h

theorem sameShapes_eq : ∀ {m now : List (Nat × TypeId × Nat × Key)} {l : List (Value × Value)}, sameShapes m now = some l → (∀ p ∈ l, p.1 = p.2) → m = now
  | [], [], _, _, _ => rfl
  | [], _ :: _, _, h, _ => by simp [sameShapes] at h
  | _ :: _, [], _, h, _ => by simp [sameShapes] at h
  | e :: m, d :: now, l, h, hl => by
    simp only [sameShapes] at h
    split at h
    · rename_i hb
      simp only [Bool.and_eq_true, Nat.beq_eq] at hb
      split at h
      · cases h
      · rename_i l' hl'
        simp only [Option.some.injEq] at h
        subst h
        have := hl _ (List.mem_cons_self ..)
        simp [addr] at this
        have hr := sameShapes_eq hl' (fun p hp => hl p (List.mem_cons_of_mem _ hp))
        have hk' := keyEq_eq hb.2
        rw [hr]
        obtain ⟨b, t, n, k1⟩ := e
        obtain ⟨b', t', n', k2⟩ := d
        simp only at hb hk' this
        rw [hk', this, hb.1.1, hb.1.2]
    · cases h

theorem sameVecs_eq : ∀ {m now : List Vec} {l : List (Value × Value)}, sameVecs m now = some l → (∀ p ∈ l, p.1 = p.2) → m = now
  | [], [], _, _, _ => rfl
  | [], _ :: _, _, h, _ => by simp [sameVecs] at h
  | _ :: _, [], _, h, _ => by simp [sameVecs] at h
  | c :: m, d :: now, l, h, hl => by
    simp only [sameVecs] at h
    split at h
    · rename_i hb
      simp only [Bool.and_eq_true, Nat.beq_eq] at hb
      split at h
      · cases h
      · rename_i l' hl'
        simp only [Option.some.injEq] at h
        subst h
        have := hl _ (List.mem_cons_self ..)
        simp [addr] at this
        have hr := sameVecs_eq hl' (fun p hp => hl p (List.mem_cons_of_mem _ hp))
        rw [hr]
        obtain ⟨e, size, v, n, xs⟩ := c
        obtain ⟨e', size', v', n', xs'⟩ := d
        simp only at hb this
        rw [hb.1, hb.2, this.1, this.2.1, this.2.2]
    · cases h
theorem sameTodo_eq : ∀ {a b : List (Key × Nat)}, sameTodo a b = true → a = b
  | [], [], _ => rfl
  | [], _ :: _, h => by simp [sameTodo] at h
  | _ :: _, [], h => by simp [sameTodo] at h
  | (a, i) :: r, (b, j) :: s, h => by
    simp only [sameTodo, Bool.and_eq_true, Nat.beq_eq] at h
    rw [keyEq_eq h.1.1, h.1.2, sameTodo_eq h.2]

theorem sameEnv_mem (env env' : Env) : ∀ (n t : Nat), t < n → (get env t, get env' t) ∈ sameEnv env env' n
  | n + 1, t, h => by
    by_cases e : t = n
    · subst e; exact List.mem_cons_self ..
    · exact List.mem_cons_of_mem _ (sameEnv_mem env env' n t (by omega))

theorem same_sound {n : Nat} {env env' : Env} {st st' : St} {a : Act} {l : List (Value × Value)} (h : sameEqs n env st env' st' = some l) (hl : ∀ p ∈ l, p.1 = p.2)
    (he : EnvOk n env' a) : EnvOk n env a ∧ st.cells = st'.cells ∧ st.shapes = st'.shapes := by
  unfold sameEqs at h
  split at h
  · rename_i ht
    split at h
    · rename_i l1 l2 l3 l4 h1 h2 h3 h4
      simp only [Option.some.injEq] at h
      subst h
      refine ⟨⟨fun t ht => (he.get t ht).trans ?_, he.size, he.defers⟩, sameCells_eq h1 (fun p hp => hl p (by simp [hp])), ?_⟩
      · exact (hl _ (List.mem_append_right _ (sameEnv_mem env env' n t ht))).symm
      · have e1 := sameShapes_eq h2 (fun p hp => hl p (by simp [hp]))
        have e2 := sameVecs_eq h3 (fun p hp => hl p (by simp [hp]))
        have e3 := sameTodo_eq ht
        have e4 := sameRos_eq h4 (fun p hp => hl p (by simp [hp]))
        generalize st.shapes = x at e1 e2 e3 e4
        generalize st'.shapes = y at e1 e2 e3 e4
        obtain ⟨a1, a2, a3, a4⟩ := x
        obtain ⟨b1, b2, b3, b4⟩ := y
        simp only at e1 e2 e3 e4
        rw [e1, e2, e3, e4]
    · cases h
  · cases h

theorem drawnE_mono {call : (Key → Nat) → CallF} (hc : CallOk P call) {ν : Key → Nat} {ops : Array Oper} {n : Nat} {tp : Key} {m : List Cell} {sh : Shapes} :
    ∀ (p : Plan) (env : Env) (st : St) (env' : Env) (st' : St), drawnE S P (call ν) ν ops n tp m sh p env st = some (env', st') → st'.Ok → st.Ok := by
  intro p
  induction p with
  | done => intro env st env' st' h hk; simp only [drawnE, Option.some.injEq, Prod.mk.injEq] at h; obtain ⟨_, rfl⟩ := h; exact hk
  | take i p ih =>
    intro env st env' st' h hk
    simp only [drawnE] at h
    split at h
    · cases h
    · split at h
      · cases h
      · rename_i v s1 ho
        have h1 := ih _ _ _ _ h hk
        have h2 := takeE_mono ho ⟨h1.eqs, h1.conds⟩
        exact ⟨h2.eqs, h2.conds⟩
  | alt i p q ihp ihq =>
    intro env st env' st' h hk
    simp only [drawnE] at h
    split at h
    · cases h
    · split at h
      · cases h
      · rename_i v s1 ho
        split at h
        · cases h
        · split at h
          · cases h
          · rename_i env1 st1 hd
            have key : st1.Ok → st.Ok := fun h1 => by
              have h2 := ihp _ _ _ _ hd h1
              exact opE_mono hc ho ⟨fun p hp => h2.eqs p (List.mem_append_right _ hp), h2.conds⟩
            split at h
            · simp only [Option.some.injEq, Prod.mk.injEq] at h
              obtain ⟨_, rfl⟩ := h
              exact key hk
            · split at h
              · cases h
              · rename_i env2 st2 hd2
                split at h
                · cases h
                · simp only [Option.some.injEq, Prod.mk.injEq] at h
                  obtain ⟨_, rfl⟩ := h
                  have h3 := ihq _ _ _ _ hd2 ⟨fun p hp => hk.eqs p (List.mem_append_right _ hp), hk.conds⟩
                  exact key ⟨h3.eqs, h3.conds⟩
  | stop => intro env st env' st' h; simp [drawnE] at h
  | swap p ih =>
    intro env st env' st' h hk
    simp only [drawnE] at h
    have h1 := ih _ _ _ _ h hk
    exact ⟨h1.eqs, h1.conds⟩
  | fuz l =>
    intro env st env' st' h hk
    simp only [drawnE] at h
    split at h
    · cases h
    · simp only [Option.some.injEq, Prod.mk.injEq] at h
      obtain ⟨_, rfl⟩ := h
      exact hk

def only (R : Act → World → Prop) : Exit → Act → World → Prop
  | .normal, a, w => R a w
  | _, _, _ => False

theorem drawn_sound (hL : LinkOk S P) {call : (Key → Nat) → CallF} (hc : CallOk P call) {C : Nat → Nat → Prop} {B : Nat} {ops : Array Oper} {n : Nat} {tp : Key} (hsel : Region.noSelect ops = true) {m : St} (hmv : m.shapes.vecs = []) :
    ∀ (p : Plan),
      (∀ (fuel : Nat) (listed : Array Bool) (a : Act) (w : World) (D : Dom) (env : (Key → Nat) → Env) (st : (Key → Nat) → St) (env' : (Key → Nat) → Env) (st' : (Key → Nat) → St) (R : Act → World → Prop),
        planOk ops p fuel listed true = true → B ≤ w.heap.size → (∀ j, listed.getD j true = false ∨ ops.size ≤ j → ∀ k, (j :: tp) <:+ k → D k = none) →
        (∀ ν, Ag D ν → EnvOk n (env ν) a) → Fam C B D w st → Inv C B w m →
        (∀ ν, Ag D ν → drawnE S P (call ν) ν ops n tp m.cells m.shapes p (env ν) (st ν) = some (env' ν, st' ν) ∧ (st' ν).Ok) →
        (∀ a' w' D', Dom.Ext tp D D' → (∀ ν, Ag D' ν → EnvOk n (env' ν) a') → Fam C B D' w' st' → Sub (fun k i => C k i ∨ B ≤ k) w w' → R a' w') →
        wpAnyH P .any ops (only R) (fun w' => Inv C B w' m) fuel listed a w) ∧
      (∀ (fuel : Nat) (listed : Array Bool) (a : Act) (w : World) (D : Dom) (env : (Key → Nat) → Env) (st : (Key → Nat) → St) (env' : (Key → Nat) → Env) (st' : (Key → Nat) → St) (R : Act → World → Prop),
        isAlt p = true → planOk ops p (fuel + 1) listed false = true → B ≤ w.heap.size → (∀ j, listed.getD j true = false ∨ ops.size ≤ j → ∀ k, (j :: tp) <:+ k → D k = none) →
        (∀ ν, Ag D ν → EnvOk n (env ν) a) → Fam C B D w st → Inv C B w m →
        (∀ ν, Ag D ν → drawnE S P (call ν) ν ops n tp m.cells m.shapes p (env ν) (st ν) = some (env' ν, st' ν) ∧ (st' ν).Ok) →
        (∀ a' w' D', Dom.Ext tp D D' → (∀ ν, Ag D' ν → EnvOk n (env' ν) a') → Fam C B D' w' st' → Sub (fun k i => C k i ∨ B ≤ k) w w' → R a' w') →
        ∀ i ∈ altIdx p, i ∈ Region.ready .any ops listed → wpOp P ops (only R) i (fun a' w' => Inv C B w' m ∧
          wpAnyH P .any ops (only R) (fun w' => Inv C B w' m) fuel (listed.setIfInBounds i true) a' w') a w) := by
  intro p
  induction p with
  | done =>
    refine ⟨fun fuel listed a w D env st env' st' R hp hB hf hi hfam hm h hR => ?_, fun fuel listed a w D env st env' st' R ha => by cases ha⟩
    have e : ∀ ν, Ag D ν → env ν = env' ν ∧ st ν = st' ν := fun ν hν => by
      have := (h ν hν).1
      simpa only [drawnE, Option.some.injEq, Prod.mk.injEq] using this
    exact wpAnyH_done (by simpa [planOk] using hp) (hR a w D (Dom.Ext.refl _ _) (fun ν hν => (e ν hν).1 ▸ hi ν hν) (hfam.congr fun ν hν => (e ν hν).2.symm) (Sub.refl _ _)) fuel
  | stop =>
    exact ⟨fun fuel listed a w D env st env' st' R hp => by simp [planOk] at hp, fun fuel listed a w D env st env' st' R ha => by cases ha⟩
  | fuz l =>
    refine ⟨fun fuel listed a w D env st env' st' R hp hB hf hi hfam hm h hR => ?_, fun fuel listed a w D env st env' st' R ha => by cases ha⟩
    simp only [planOk, Bool.and_eq_true] at hp
    have h1 : ∀ ν, Ag D ν → fuzE ν ops n tp l (env ν) = some (env' ν) ∧ st ν = st' ν := fun ν hν => by
      have := (h ν hν).1
      simp only [drawnE] at this
      split at this
      · cases this
      · rename_i e he
        simp only [Option.some.injEq, Prod.mk.injEq] at this
        exact ⟨he.trans (by rw [this.1]), this.2⟩
    obtain ⟨D', hD1, hD2⟩ := fuz_dom l D env env' hp.2 (fun i _ => hf (ops.size + i) (.inr (Nat.le_add_right ..)) _ (List.suffix_refl _)) hi (fun ν hν => (h1 ν hν).1)
    exact wpAnyH_done (by simpa using hp.1) (hR a w D' hD1 hD2 ((hfam.congr fun ν hν => (h1 ν hν).2.symm).sub fun ν hν => hν.ext hD1) (Sub.refl _ _)) fuel
  | swap p ih =>
    refine ⟨fun fuel listed a w D env st env' st' R hp hB hf hi hfam hm h hR => ?_, fun fuel listed a w D env st env' st' R ha => by cases ha⟩
    simp only [planOk, Bool.true_and] at hp
    exact ih.1 fuel listed a w D env (fun ν => (st ν).swapV) env' st' R hp hB hf hi hfam.swap hm (fun ν hν => by simpa only [drawnE] using h ν hν) hR
  | take i p ih =>
    refine ⟨fun fuel listed a w D env st env' st' R hp hB hf hi hfam hm h hR => ?_, fun fuel listed a w D env st env' st' R ha => by cases ha⟩
    cases fuel with
    | zero => simp [planOk] at hp
    | succ fuel =>
      simp only [planOk, Bool.and_eq_true] at hp
      obtain ⟨⟨hr, hfree⟩, hp'⟩ := hp
      obtain ⟨o, ho⟩ : ∃ o, ops[i]? = some o := by
        have := (h _ (Ag.some D)).1
        simp only [drawnE] at this
        split at this
        · cases this
        · rename_i o ho; exact ⟨o, ho⟩
      obtain ⟨f, hf1⟩ := pick (D := D) ((undef, st (fun _ => 0)) : Value × St) (Q := fun ν x => takeE S P ops n (env ν) o { st ν with cells := m.cells, shapes := m.shapes } = some (x.1, x.2) ∧ x.2.Ok ∧
          drawnE S P (call ν) ν ops n tp m.cells m.shapes p (putE n (env ν) o.dst x.1) { x.2 with cells := (st ν).cells, shapes := (st ν).shapes } = some (env' ν, st' ν)) (fun ν hν => by
        obtain ⟨h1, h2⟩ := h ν hν
        simp only [drawnE, ho] at h1
        split at h1
        · cases h1
        · rename_i v s1 ht
          have := drawnE_mono hc _ _ _ _ _ h1 h2
          exact ⟨(v, s1), ht, ⟨this.eqs, this.conds⟩, h1⟩)
      have ts : ∀ ν, Ag D ν → (Region.wanted o (yielded ops a.tmps) = true ∧ ∀ w, Inv C B w m → (execOp a.eval o).run P w = .ok (.value (f ν).1) w) ∨ (Region.wanted o (yielded ops a.tmps) = false ∧ (f ν).1 = undef) := fun ν hν =>
        (take_sound (C := C) (B := B) (hi ν hν) (hf1 ν hν).1 (hf1 ν hν).2.1).imp (fun ⟨x, y⟩ => ⟨x, fun w hw => y w (hw.of_cells (by rfl) (by rfl))⟩) id
      have hv : ∀ ν, Ag D ν → (f ν).1 = (f (fun k => (D k).getD 0)).1 := fun ν hν => by
        rcases ts ν hν with ⟨x, y⟩ | ⟨x, y⟩
        · rcases ts _ (Ag.some D) with ⟨x', y'⟩ | ⟨x', y'⟩
          · have e1 := y w hm
            have e2 := y' w hm
            rw [e1] at e2
            simpa using e2
          · rw [x] at x'; cases x'
        · rcases ts _ (Ag.some D) with ⟨x', y'⟩ | ⟨x', y'⟩
          · rw [x] at x'; cases x'
          · rw [y, y']
      refine wpAnyH_take ho hsel hfree hr (fun c a w h => h) (v := (f (fun k => (D k).getD 0)).1) (ts _ (Ag.some D)) hm ?_
      refine ih.1 fuel _ _ w D (fun ν => putE n (env ν) o.dst (f ν).1) (fun ν => { (f ν).2 with cells := (st ν).cells, shapes := (st ν).shapes }) env' st' R hp' hB (fun j hj => hf j (hj.imp (fun hj => ?_) id)) (fun ν hν => ?_) (hfam.of_cells fun ν hν => ⟨rfl, rfl⟩) hm (fun ν hν => ⟨(hf1 ν hν).2.2, (h ν hν).2⟩) hR
      · by_cases e : i = j
        · subst e
          rcases Nat.lt_or_ge i listed.size with hs | hs
          · simp [Array.getD, hs] at hj
          · simp [Array.getD, Nat.not_lt.2 hs] at hj
        · rw [getD_set_ne true e] at hj; exact hj
      · show EnvOk n (putE n (env ν) o.dst (f ν).1) _
        rw [hv ν hν]
        exact (hi ν hν).put _ _
  | alt i p q ihp ihq =>
    have halt : ∀ (fuel : Nat) (listed : Array Bool) (a : Act) (w : World) (D : Dom) (env : (Key → Nat) → Env) (st : (Key → Nat) → St) (env' : (Key → Nat) → Env) (st' : (Key → Nat) → St) (R : Act → World → Prop),
        planOk ops p fuel (listed.setIfInBounds i true) true = true → (isStop q = true ∨ isAlt q = true ∧ planOk ops q (fuel + 1) listed false = true) → B ≤ w.heap.size → (∀ j, listed.getD j true = false ∨ ops.size ≤ j → ∀ k, (j :: tp) <:+ k → D k = none) →
        (∀ ν, Ag D ν → EnvOk n (env ν) a) → Fam C B D w st → Inv C B w m →
        (∀ ν, Ag D ν → drawnE S P (call ν) ν ops n tp m.cells m.shapes (.alt i p q) (env ν) (st ν) = some (env' ν, st' ν) ∧ (st' ν).Ok) →
        (∀ a' w' D', Dom.Ext tp D D' → (∀ ν, Ag D' ν → EnvOk n (env' ν) a') → Fam C B D' w' st' → Sub (fun k i => C k i ∨ B ≤ k) w w' → R a' w') →
        ∀ x ∈ i :: altIdx q, x ∈ Region.ready .any ops listed → wpOp P ops (only R) x (fun a' w' => Inv C B w' m ∧
          wpAnyH P .any ops (only R) (fun w' => Inv C B w' m) fuel (listed.setIfInBounds x true) a' w') a w := by
      intro fuel listed a w D env st env' st' R hp hq hB hf hi hfam hm h hR
      obtain ⟨o, ho⟩ : ∃ o, ops[i]? = some o := by
        have := (h _ (Ag.some D)).1
        simp only [drawnE] at this
        split at this
        · cases this
        · rename_i o ho; exact ⟨o, ho⟩
      -- what the first way and the others gave
      obtain ⟨f, hf1⟩ := pick (D := D) ((((undef, st (fun _ => 0)), []), (env (fun _ => 0), st (fun _ => 0))) : ((Value × St) × List (Value × Value)) × (Env × St)) (Q := fun ν x =>
          opE S P (call ν) ν ops n (i :: tp) (env ν) o (st ν) = some (x.1.1.1, x.1.1.2) ∧ x.1.1.2.Ok ∧ keepEqs m.cells (lastOf m.cells x.1.1.2.cells) = some x.1.2 ∧ (∀ p ∈ x.1.2, p.1 = p.2) ∧
          drawnE S P (call ν) ν ops n tp m.cells m.shapes p (putE n (env ν) o.dst x.1.1.1) { x.1.1.2 with eqs := x.1.2 ++ x.1.1.2.eqs } = some (x.2.1, x.2.2) ∧ x.2.2.Ok ∧
          (match isStop q with
            | true => some (x.2.1, x.2.2)
            | false => (match drawnE S P (call ν) ν ops n tp m.cells m.shapes q (env ν) { x.2.2 with cells := (st ν).cells, shapes := (st ν).shapes } with
              | none => none
              | some (env2, st2) => (match sameEqs n x.2.1 x.2.2 env2 st2 with
                | none => none
                | some eqs => some (x.2.1, { st2 with cells := x.2.2.cells, shapes := x.2.2.shapes, eqs := eqs ++ st2.eqs })))) = some (env' ν, st' ν)) (fun ν hν => by
        obtain ⟨h1, h2⟩ := h ν hν
        simp only [drawnE, ho] at h1
        split at h1
        · cases h1
        · rename_i v s1 hop
          split at h1
          · cases h1
          · rename_i eqs hke
            split at h1
            · cases h1
            · rename_i env1 st1 hd
              have hk1 : st1.Ok := by
                split at h1
                · simp only [Option.some.injEq, Prod.mk.injEq] at h1
                  obtain ⟨_, e⟩ := h1
                  rw [e]; exact h2
                · split at h1
                  · cases h1
                  · rename_i env2 st2 hd2
                    split at h1
                    · cases h1
                    · simp only [Option.some.injEq, Prod.mk.injEq] at h1
                      obtain ⟨_, e⟩ := h1
                      rw [← e] at h2
                      have h3 := drawnE_mono hc _ _ _ _ _ hd2 ⟨fun p hp => h2.eqs p (List.mem_append_right _ hp), h2.conds⟩
                      exact ⟨h3.eqs, h3.conds⟩
              have h4 := drawnE_mono hc _ _ _ _ _ hd hk1
              exact ⟨(((v, s1), eqs), (env1, st1)), hop, ⟨fun p hp => h4.eqs p (List.mem_append_right _ hp), h4.conds⟩, hke, fun p hp => h4.eqs p (List.mem_append_left _ hp), hd, hk1, h1⟩)
      intro x hx hrdy
      obtain ⟨hun, _⟩ := mem_ready.1 hrdy
      rcases List.mem_cons.1 hx with rfl | hx
      · -- this one comes up
        refine wpOp_step ho fun K hK => ?_
        refine op_sound hL hc hB (hf x (.inl hun)) hi hfam (fun ν hν => ⟨(hf1 ν hν).1, (hf1 ν hν).2.1⟩) (fun y w' ⟨D', hx, hy, hy', hz⟩ => hK _ _ ?_)
        have h0 : Ag D (fun k => (D' k).getD 0) := (Ag.some D').ext hx
        have hm' : Inv C B w' m := hm.kept (hy'.inv _ (Ag.some D')) (hf1 _ h0).2.2.1 (hf1 _ h0).2.2.2.1 hz hmv
        refine ⟨hm', ?_⟩
        refine ihp.1 fuel _ _ w' D' (fun ν => putE n (env ν) o.dst (f ν).1.1.1) (fun ν => { (f ν).1.1.2 with eqs := (f ν).1.2 ++ (f ν).1.1.2.eqs }) (fun ν => (f ν).2.1) (fun ν => (f ν).2.2) R hp (Nat.le_trans hB hz.size) (fun j hj k hk => ?_) (fun ν hν => ?_) (hy'.of_cells fun ν hν => ⟨rfl, rfl⟩) hm'
          (fun ν hν => ⟨(hf1 ν (hν.ext hx)).2.2.2.2.1, (hf1 ν (hν.ext hx)).2.2.2.2.2.1⟩) (fun a' w2 D2 hx2 hy2 hy3 hz2 => ?_)
        · rcases hj with hj | hj
          · have hne : x ≠ j := fun e => by
              subst e
              rcases Nat.lt_or_ge x listed.size with hs | hs
              · simp [Array.getD, hs] at hj
              · simp [Array.getD, Nat.not_lt.2 hs] at hj
            rw [getD_set_ne true hne] at hj
            rw [hx.new k (fun hh => hne (suffix_ne hh hk))]
            exact hf j (.inl hj) k hk
          · have hne : x ≠ j := fun e => by
              have := (Array.getElem?_eq_some_iff.1 ho).1
              omega
            rw [hx.new k (fun hh => hne (suffix_ne hh hk))]
            exact hf j (.inr hj) k hk
        · have e := hy ν hν
          simp only at e ⊢
          rw [e]
          exact (hi ν (hν.ext hx)).put _ _
        · have hag : ∀ ν, Ag D2 ν → Ag D ν := fun ν hν => (hν.ext hx2).ext hx
          refine hR a' w2 D2 ((hx.mono (List.suffix_cons _ _)).trans hx2) (fun ν hν => ?_) ?_ (Sub.trans (B := w.heap.size) hz (hz2.mono fun k i hh => .inl hh) (Nat.le_refl _))
          · have e : env' ν = (f ν).2.1 := by
              have := (hf1 ν (hag ν hν)).2.2.2.2.2.2
              split at this
              · simp only [Option.some.injEq, Prod.mk.injEq] at this; exact this.1.symm
              · split at this
                · cases this
                · split at this
                  · cases this
                  · simp only [Option.some.injEq, Prod.mk.injEq] at this; exact this.1.symm
            rw [e]; exact hy2 ν hν
          · refine hy3.of_cells fun ν hν => ?_
            have := (hf1 ν (hag ν hν)).2.2.2.2.2.2
            split at this
            · simp only [Option.some.injEq, Prod.mk.injEq] at this; rw [← this.2]; exact ⟨rfl, rfl⟩
            · split at this
              · cases this
              · split at this
                · cases this
                · simp only [Option.some.injEq, Prod.mk.injEq] at this; rw [← this.2]; exact ⟨rfl, rfl⟩
      · -- another one does
        have hq' : isStop q = false := by
          cases q <;> first | rfl | simp [altIdx] at hx
        rcases hq with hq | ⟨hqa, hqp⟩
        · rw [hq'] at hq; cases hq
        · obtain ⟨g, hg⟩ := pick (D := D) ((env (fun _ => 0), st (fun _ => 0)) : Env × St) (Q := fun ν y =>
            drawnE S P (call ν) ν ops n tp m.cells m.shapes q (env ν) { (f ν).2.2 with cells := (st ν).cells, shapes := (st ν).shapes } = some (y.1, y.2) ∧ y.2.Ok ∧
            ∃ eqs, sameEqs n (f ν).2.1 (f ν).2.2 y.1 y.2 = some eqs ∧ (∀ p ∈ eqs, p.1 = p.2) ∧ env' ν = (f ν).2.1 ∧ (st' ν).cells = (f ν).2.2.cells ∧ (st' ν).shapes = (f ν).2.2.shapes) (fun ν hν => by
              have := (hf1 ν hν).2.2.2.2.2.2
              rw [hq'] at this
              simp only at this
              split at this
              · cases this
              · rename_i env2 st2 hd2
                split at this
                · cases this
                · rename_i eqs hse
                  simp only [Option.some.injEq, Prod.mk.injEq] at this
                  have hk := (h ν hν).2
                  rw [← this.2] at hk
                  exact ⟨(env2, st2), hd2, ⟨fun p hp => hk.eqs p (List.mem_append_right _ hp), hk.conds⟩, eqs, hse, fun p hp => hk.eqs p (List.mem_append_left _ hp), this.1.symm, by rw [← this.2], by rw [← this.2]⟩)
          refine ihq.2 fuel listed a w D env (fun ν => { (f ν).2.2 with cells := (st ν).cells, shapes := (st ν).shapes }) (fun ν => (g ν).1) (fun ν => (g ν).2) R hqa hqp hB hf hi (hfam.of_cells fun ν hν => ⟨rfl, rfl⟩) hm
            (fun ν hν => ⟨(hg ν hν).1, (hg ν hν).2.1⟩) (fun a' w' D' hx1 hy1 hy2 hz => ?_) x hx hrdy
          have hsame : ∀ ν, Ag D' ν → EnvOk n (env' ν) a' ∧ (st' ν).cells = (g ν).2.cells ∧ (st' ν).shapes = (g ν).2.shapes := fun ν hν => by
            obtain ⟨_, _, eqs, h1, h2, h3, h4, h5⟩ := hg ν (hν.ext hx1)
            obtain ⟨s1, s2, s3⟩ := same_sound h1 h2 (hy1 ν hν)
            exact ⟨h3 ▸ s1, h4.trans s2, h5.trans s3⟩
          exact hR a' w' D' hx1 (fun ν hν => (hsame ν hν).1) (hy2.of_cells fun ν hν => (hsame ν hν).2) hz
    refine ⟨fun fuel listed a w D env st env' st' R hp hB hf hi hfam hm h hR => ?_, fun fuel listed a w D env st env' st' R ha hp hB hf hi hfam hm h hR => ?_⟩
    · cases fuel with
      | zero => simp [planOk] at hp
      | succ fuel =>
        simp only [planOk, Bool.and_eq_true, Bool.not_true, Bool.false_or, Bool.or_eq_true, beq_iff_eq] at hp
        obtain ⟨⟨hr, hp1⟩, hq1⟩ := hp
        refine wpAnyH_all hr (by simp) (fun x hx => halt fuel listed a w D env st env' st' R hp1 hq1 hB hf hi hfam hm h hR x hx (by rw [hr]; exact hx))
    · simp only [planOk, Bool.and_eq_true, Bool.not_false, Bool.true_or, Bool.or_eq_true, true_and] at hp
      exact halt fuel listed a w D env st env' st' R hp.1 hp.2 hB hf hi hfam hm h hR
end
end Go.Proofs.YtmihblocomnfjaaDoor.Sy
