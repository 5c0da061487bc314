/- A walk that the kernel carries out: the model's own operations are run over a short list of known cells; each test, each address met is noted, and the notes are paid behind. Here: the words, and what one operation's run says of the true world. -/
import Derived.Test.YtmihblocomnfjaaDoorRows
import Derived.WalkKit
import Derived.OrdersHeld
import Derived.Deep.RegionHeld3
import Derived.Laws.OwnMore
set_option linter.unusedSimpArgs false
set_option linter.unusedVariables false
namespace Go.Proofs.YtmihblocomnfjaaDoor.Sy
open Go

abbrev Key := List Nat

/-- A known cell: its block and offset, what it holds ('none': not to be looked at now); the key of the operation that made its block ([]: it was there). -/
structure Cell where
  b : Nat
  o : Nat
  v : Option Value
  key : Key := []

/-- In which order a drawn region is gone through: 'take i': number i may be taken first (it only looks); 'alt i p q': one of those that may come up: number i, behind it p; or another one: q. -/
inductive Plan where
  | done
  | take (i : Nat) (p : Plan)
  | alt (i : Nat) (p q : Plan)
  | stop
  | swap (p : Plan)
  | fuz (l : List Nat)

/-- A slice of the call's own whose length need not be known: its element's type, the cells of one, its value, its length, its cells. -/
structure Vec where
  e : TypeId
  size : Nat
  v : Value
  n : Nat
  xs : List Value

/-- A slice that is only looked at, wherever it lies: where it begins, its cells. -/
structure Ro where
  a : Addr
  xs : List Value

structure Shapes where
  l : List (Nat × TypeId × Nat × Key)
  vecs : List Vec
  todo : List (Key × Nat)
  ros : List Ro := []

structure St where
  cells : List Cell
  shapes : Shapes
  tr : List Nat
  eqs : List (Value × Value)
  conds : List (Bool × Bool)
  wr : List (Nat × Nat)
  log : List (Key × List Bool × Plan)
  glog : List (Key × List Bool × List Bool)

structure Strat where
  blk : List Cell → Nat → Nat → List Nat → Option (Nat × List Nat)
  shp : List (Nat × TypeId × Nat × Key) → Nat → List Nat → Option (Nat × List Nat)
  bool : Bool → List Nat → Option (Bool × Bool × List Nat)
  vec : Key → List Vec → Option Nat → List (Key × Nat) → Option (Nat × List (Key × Nat))
  big : TypeId → Bool
  ext : List (FuncId × (Array Value → Sem Value))
  cas : List FuncId
  elem : List Cell → List Vec → List Ro → Nat → Nat → List Nat → Option (Nat × Nat × List Nat)
  src : List Vec → List Ro → Nat → List Nat → Option (Nat × List Nat)

def findCell (b o : Nat) : List Cell → Nat → Option Nat
  | [], _ => none
  | c :: r, i => if Nat.beq c.b b && Nat.beq c.o o then some i else findCell b o r (i + 1)
def findShape (b : Nat) : List (Nat × TypeId × Nat × Key) → Nat → Option Nat
  | [], _ => none
  | c :: r, i => if Nat.beq c.1 b then some i else findShape b r (i + 1)

def findVec (b : Nat) : List Vec → Nat → Option Nat
  | [], _ => none
  | c :: r, i => match c.v with
    | .slice (some a) _ _ => if Nat.beq a.block b then some i else findVec b r (i + 1)
    | _ => findVec b r (i + 1)

def keyEq : List Nat → List Nat → Bool
  | [], [] => true
  | a :: r, b :: s => Nat.beq a b && keyEq r s
  | _, _ => false
def findKey (key : Key) : List (Key × Nat) → Option Nat
  | [] => none
  | x :: r => match keyEq x.1 key with
    | true => some x.2
    | false => findKey key r

def findRo (b : Nat) : List Ro → Nat → Option Nat
  | [], _ => none
  | r :: l, i => if Nat.beq r.a.block b then some i else findRo b l (i + 1)

/-! ### What an element of a slice holds -/
def noV : Value := .tuple #[]
def isK (κ : Nat) (v : Value) : Bool := match κ with
  | 0 => (match v with | .bool _ => true | _ => false)
  | 1 => (match v with | .int .i64 _ => true | _ => false)
  | 2 => (match v with | .int .u64 _ => true | _ => false)
  | 3 => (match v with | .int .u8 _ => true | _ => false)
  | 4 => (match v with | .pointer (some ⟨_, 0, none⟩) => true | _ => false)
  | 5 => (match v with | .pointer none => true | _ => false)
  | 6 => (match v with | .slice (some ⟨_, 0, none⟩) _ _ => true | _ => false)
  | 7 => (match v with | .slice none 0 0 => true | _ => false)
  | 8 => (match v with | .float .f64 _ => true | _ => false)
  | 9 => (match v with | .string _ => true | _ => false)
  | 10 => (match v with | .int .u32 _ => true | _ => false)
  | 11 => (match v with | .int .i32 _ => true | _ => false)
  | 12 => (match v with | .int .u16 _ => true | _ => false)
  | _ => false
def valB : Value → Bool
  | .bool b => b
  | _ => false
def valI : Value → Int
  | .int _ n => n
  | _ => 0
def valF : Value → Nat
  | .float _ n => n
  | _ => 0
def valS : Value → ByteArray
  | .string s => s
  | _ => .empty
def valP : Value → Nat
  | .pointer (some a) => a.block
  | .slice (some a) _ _ => a.block
  | _ => 0
def valN : Value → Nat
  | .slice _ n _ => n
  | _ => 0
def valC : Value → Nat
  | .slice _ _ c => c
  | _ => 0
def asK (κ : Nat) (v : Value) : Value := match κ with
  | 0 => .bool (valB v)
  | 1 => .int .i64 (valI v)
  | 2 => .int .u64 (valI v)
  | 3 => .int .u8 (valI v)
  | 4 => .pointer (some ⟨valP v, 0, none⟩)
  | 5 => .pointer none
  | 6 => .slice (some ⟨valP v, 0, none⟩) (valN v) (valC v)
  | 7 => .slice none 0 0
  | 8 => .float .f64 (valF v)
  | 9 => .string (valS v)
  | 10 => .int .u32 (valI v)
  | 11 => .int .i32 (valI v)
  | 12 => .int .u16 (valI v)
  | _ => noV
theorem asK_eq {κ : Nat} {v : Value} (h : isK κ v = true) : asK κ v = v := by
  unfold isK at h
  split at h <;> first | (split at h <;> first | rfl | (cases h; done)) | (cases h; done)
theorem isK_noV (κ : Nat) : isK κ noV = false := by
  unfold isK noV
  split <;> rfl
def kindOf : Value → Nat
  | .bool _ => 0
  | .int .i64 _ => 1
  | .int .u64 _ => 2
  | .int .u8 _ => 3
  | .pointer (some _) => 4
  | .pointer none => 5
  | .slice (some _) _ _ => 6
  | .slice none _ _ => 7
  | .float .f64 _ => 8
  | .string _ => 9
  | .int .u32 _ => 10
  | .int .i32 _ => 11
  | .int .u16 _ => 12
  | _ => 99
def setVec (x : Vec) : List Vec → Nat → List Vec
  | [], _ => []
  | _ :: r, 0 => x :: r
  | y :: r, i + 1 => y :: setVec x r i

def keyLe : Key → Key → Bool
  | [], _ => true
  | _ :: _, [] => false
  | a :: r, b :: s => match Nat.blt a b with
    | true => true
    | false => match Nat.beq a b with
      | true => keyLe r s
      | false => false
def insKey (x : Key × Nat) : List (Key × Nat) → List (Key × Nat)
  | [] => [x]
  | y :: r => match keyEq x.1 y.1 with
    | true => x :: r
    | false => match keyLe x.1 y.1 with
      | true => x :: y :: r
      | false => y :: insKey x r
/-- With numbers for all blocks: the places are sought, and noted (the last first). -/
def autoB (ext : List (FuncId × (Array Value → Sem Value))) (cas : List FuncId) (big : TypeId → Bool) : Strat where
  ext := ext
  cas := cas
  big := big
  vec key vecs b todo := match b with
    | none => some (1000, insKey (key, 1000) todo)
    | some b => match findVec b vecs 0 with | some i => some (i, insKey (key, i) todo) | none => some (1000, insKey (key, 1000) todo)
  blk cells b o tr := match findCell b o cells 0 with | some i => some (i, i :: tr) | none => none
  shp shapes b tr := match findShape b shapes 0 with | some i => some (i, i :: tr) | none => none
  bool b tr := match b with | true => some (true, true, 1000003 :: tr) | false => some (false, true, 1000002 :: tr)
  src vecs ros b tr := match findVec b vecs 0 with
    | some i => some (i, (4000000 + i) :: tr)
    | none => match findRo b ros 0 with
      | some i => some (1000 + i, (4001000 + i) :: tr)
      | none => none
  elem cells vecs ros b o tr := match findCell b o cells 0 with
    | some _ => none
    | none => match findVec b vecs 0 with
      | none => match findRo b ros 0 with
        | none => none
        | some i => match ros[i]? with
          | none => none
          | some r => match kindOf (r.xs.getD (Nat.sub o r.a.off) noV) with
            | κ => some (1000 + i, κ, (2100000 + i * 100 + κ) :: tr)
      | some i => match vecs[i]? with
        | none => none
        | some x => match kindOf (x.xs.getD o noV) with
          | κ => some (i, κ, (2000000 + i * 100 + κ) :: tr)

/-- By the notes. -/
def followB (ext : List (FuncId × (Array Value → Sem Value))) (cas : List FuncId) (big : TypeId → Bool) : Strat where
  ext := ext
  cas := cas
  big := big
  vec key _ _ todo := match findKey key todo with | some i => some (i, todo) | none => none
  blk _ _ _ tr := match tr with | i :: r => some (i, r) | [] => none
  shp _ _ tr := match tr with | i :: r => some (i, r) | [] => none
  bool _ tr := match tr with | i :: r => some (Nat.beq i 1 || Nat.beq i 3, Nat.blt 1 i, r) | [] => none
  src _ _ _ tr := match tr with
    | i :: r => match Nat.ble 4000000 i with
      | true => some (Nat.sub i 4000000, r)
      | false => none
    | [] => none
  elem _ _ _ _ _ tr := match tr with
    | i :: r => match Nat.ble 2000000 i with
      | true => some (Nat.div (Nat.sub i 2000000) 100, Nat.mod (Nat.sub i 2000000) 100, r)
      | false => none
    | [] => none

def addr (b o : Nat) : Value := .pointer (some ⟨b, o, none⟩)

def nth {α : Type} : List α → Nat → Option α
  | [], _ => none
  | x :: _, 0 => some x
  | _ :: r, i + 1 => nth r i
theorem nth_eq {α : Type} : ∀ (l : List α) (i : Nat), nth l i = l[i]?
  | [], _ => rfl
  | _ :: _, 0 => rfl
  | _ :: r, i + 1 => by simp only [nth, nth_eq r i, List.getElem?_cons_succ]

/-- The sought-for cell. -/
def St.look (S : Strat) (st : St) (a : Addr) : Option (Nat × Cell × St) :=
  match S.blk st.cells a.block a.off st.tr with
  | none => none
  | some (i, tr) => match nth st.cells i with
    | none => none
    | some c => some (i, c, { st with tr := tr, eqs := (.pointer (some a), addr c.b c.o) :: st.eqs })

/-- The sought-for slice, where an address lies in one: which it is, its block, what kind of thing lies there. -/
def St.elemE (S : Strat) (st : St) (a : Addr) : Option (Nat × Vec × Nat × Nat × St) :=
  match S.elem st.cells st.shapes.vecs st.shapes.ros a.block a.off st.tr with
  | none => none
  | some (i, κ, tr) => match nth st.shapes.vecs i with
    | none => none
    | some x => match x.v with
      | .slice (some ad) _ _ => some (i, x, ad.block, κ, { st with tr := tr })
      | _ => none
/-- The same of slices that are only looked at. -/
def St.roE (S : Strat) (st : St) (a : Addr) : Option (Ro × Nat × St) :=
  match S.elem st.cells st.shapes.vecs st.shapes.ros a.block a.off st.tr with
  | none => none
  | some (i, κ, tr) => match nth st.shapes.ros (Nat.sub i 1000) with
    | none => none
    | some r => some (r, κ, { st with tr := tr })

def St.guess (S : Strat) (st : St) (b : Bool) : Option (Bool × St) :=
  match S.bool b st.tr with
  | none => none
  | some (g, open_, tr) => match open_ with
    | true => some (g, { st with tr := tr, conds := (b, g) :: st.conds })
    | false => match b, g with
      | true, true => some (true, { st with tr := tr })
      | false, false => some (false, { st with tr := tr })
      | _, _ => none

def keyLt : List Nat → List Nat → Bool
  | [], [] => false
  | [], _ => true
  | _, [] => false
  | a :: r, b :: s => if Nat.beq a b then keyLt r s else Nat.blt a b

def newCells (n : Nat) (key : Key) : List Value → Nat → List Cell
  | [], _ => []
  | v :: r, i => ⟨n, i, some v, key⟩ :: newCells n key r (i + 1)

/-- New cells go in by their key, so that two orders of the same makings end in one list. -/
def putNew (new : List Cell) (key : Key) : List Cell → List Cell
  | [] => new
  | c :: r => match keyLt c.key.reverse key.reverse with
    | true => new ++ (c :: r)
    | false => c :: putNew new key r
def putShape (new : Nat × TypeId × Nat × Key) : List (Nat × TypeId × Nat × Key) → List (Nat × TypeId × Nat × Key)
  | [] => [new]
  | c :: r => match keyLt c.2.2.2.reverse new.2.2.2.reverse with
    | true => new :: c :: r
    | false => c :: putShape new r

def setVal (v : Value) : List Cell → Nat → List Cell
  | [], _ => []
  | c :: r, 0 => { c with v := some v } :: r
  | c :: r, i + 1 => c :: setVal v r i

def oneC : Value → Bool
  | .agg _ | .tuple _ => false
  | _ => true

section
variable (S : Strat) (P : Program) (ν : Key → Nat)

/-- One operation of the model, over the known cells. 'j': how many blocks this operation has made. -/
def sem {α : Type} (key : Key) : Sem α → Nat → St → Option (α × St)
  | .pure a, _, st => some (a, st)
  | .load _ a k, j, st => match st.elemE S a with
    | some (_, x, g, κ, st') => match st'.guess S (isK κ (x.xs.getD a.off noV)) with
      | some (true, s2) => sem key (k (asK κ (x.xs.getD a.off noV))) j { s2 with eqs := (.pointer (some a), addr g a.off) :: s2.eqs }
      | _ => none
    | none => match st.roE S a with
      | some (r, κ, st') => match st'.guess S (isK κ (r.xs.getD (Nat.sub a.off r.a.off) noV)) with
        | some (true, s2) => match s2.guess S (Nat.ble r.a.off a.off) with
          | some (true, s3) => sem key (k (asK κ (r.xs.getD (Nat.sub a.off r.a.off) noV))) j { s3 with eqs := (.pointer (some a), addr r.a.block a.off) :: s3.eqs }
          | _ => none
        | _ => none
      | none => match st.look S a with
        | some (_, c, st') => match c.v with
          | some v => sem key (k v) j st'
          | none => none
        | none => none
  | .store _ a v k, j, st => match oneC v with
    | true => match st.elemE S a with
      | some (i, x, g, _, st') => match st'.guess S (Nat.blt a.off x.xs.length) with
        | some (true, s2) => sem key k j { s2 with eqs := (.pointer (some a), addr g a.off) :: s2.eqs, shapes := { s2.shapes with vecs := setVec { x with xs := x.xs.set a.off v } s2.shapes.vecs i }, wr := (a.block, a.off) :: s2.wr }
        | _ => none
      | none => match st.look S a with
        | some (i, c, st') => match c.v with
          | some _ => sem key k j { st' with cells := setVal v st'.cells i, wr := (a.block, a.off) :: st'.wr }
          | none => none
        | none => none
    | false => none
  | .new o k, j, st => match o with
    | .cells c e (lo, hi) => match Nat.beq lo 0 && Nat.beq hi 0 with
      | true => sem key (k (ν (j :: key))) (j + 1)
          { st with cells := putNew (newCells (ν (j :: key)) (j :: key) c.toList 0) (j :: key) st.cells, shapes := { st.shapes with l := putShape (ν (j :: key), e, c.size, j :: key) st.shapes.l } }
      | false => none
    | _ => none
  | .shape r k, j, st => match S.shp st.shapes.l r st.tr with
    | none => none
    | some (i, tr) => match nth st.shapes.l i with
      | none => none
      | some s => sem key (k (some (s.2.1, s.2.2.1))) j { st with tr := tr, eqs := (addr r 0, addr s.1 0) :: st.eqs }
  | .frozen a k, j, st => match st.elemE S a with
    | some (_, _, g, _, st') => sem key (k false) j { st' with eqs := (.pointer (some a), addr g a.off) :: st'.eqs }
    | none => match st.look S a with
      | some (_, _, st') => sem key (k false) j st'
      | none => none
  | .program k, j, st => sem key (k P) j st
  | .mark _ k, j, st => sem key k j st
  | .freeze .., _, _ => none
  | .getObj .., _, _ => none
  | .setObj .., _, _ => none
  | .choose .., _, _ => none
  | .sys .., _, _ => none
  | .halt .., _, _ => none
end

/-! ### What the notes must pay -/
structure St.Ok (st : St) : Prop where
  eqs : ∀ p ∈ st.eqs, p.1 = p.2
  conds : ∀ c ∈ st.conds, c.1 = c.2

theorem look_ok {S : Strat} {st st' : St} {a : Addr} {i : Nat} {c : Cell} (h : st.look S a = some (i, c, st')) (hk : st'.Ok) :
    st.Ok ∧ a = ⟨c.b, c.o, none⟩ ∧ st.cells[i]? = some c ∧ st'.cells = st.cells ∧ st'.shapes = st.shapes := by
  unfold St.look at h
  split at h
  · cases h
  · split at h
    · cases h
    · simp only [Option.some.injEq, Prod.mk.injEq] at h
      obtain ⟨rfl, rfl, rfl⟩ := h
      refine ⟨⟨fun p hp => hk.eqs p (List.mem_cons_of_mem _ hp), hk.conds⟩, ?_, by rw [← nth_eq]; assumption, rfl, rfl⟩
      have := hk.eqs _ (List.mem_cons_self ..)
      simpa [addr] using this

theorem guess_ok {S : Strat} {st st' : St} {b g : Bool} (h : st.guess S b = some (g, st')) (hk : st'.Ok) :
    st.Ok ∧ b = g ∧ st'.cells = st.cells ∧ st'.shapes = st.shapes := by
  unfold St.guess at h
  split at h
  · cases h
  · split at h
    · simp only [Option.some.injEq, Prod.mk.injEq] at h
      obtain ⟨rfl, rfl⟩ := h
      exact ⟨⟨hk.eqs, fun c hc => hk.conds c (List.mem_cons_of_mem _ hc)⟩, hk.conds _ (List.mem_cons_self ..), rfl, rfl⟩
    · split at h
      · simp only [Option.some.injEq, Prod.mk.injEq] at h
        obtain ⟨rfl, rfl⟩ := h
        exact ⟨⟨hk.eqs, hk.conds⟩, rfl, rfl, rfl⟩
      · simp only [Option.some.injEq, Prod.mk.injEq] at h
        obtain ⟨rfl, rfl⟩ := h
        exact ⟨⟨hk.eqs, hk.conds⟩, rfl, rfl, rfl⟩
      · cases h

theorem elem_ok {S : Strat} {st st' : St} {a : Addr} {i g κ : Nat} {x : Vec} (h : st.elemE S a = some (i, x, g, κ, st')) :
    st.shapes.vecs[i]? = some x ∧ (∃ ad n c, x.v = .slice (some ad) n c ∧ g = ad.block) ∧ st'.cells = st.cells ∧ st'.shapes = st.shapes ∧ st'.eqs = st.eqs ∧ st'.conds = st.conds := by
  unfold St.elemE at h
  split at h
  · cases h
  · split at h
    · cases h
    · rename_i x0 hx
      split at h
      · rename_i ad n c hv
        simp only [Option.some.injEq, Prod.mk.injEq] at h
        obtain ⟨rfl, rfl, rfl, rfl, rfl⟩ := h
        exact ⟨by rw [← nth_eq]; exact hx, ⟨ad, n, c, hv, rfl⟩, rfl, rfl, rfl, rfl⟩
      · cases h

theorem roE_ok {S : Strat} {st st' : St} {a : Addr} {κ : Nat} {r : Ro} (h : st.roE S a = some (r, κ, st')) : r ∈ st.shapes.ros ∧ st'.cells = st.cells ∧ st'.shapes = st.shapes ∧ st'.eqs = st.eqs ∧ st'.conds = st.conds := by
  unfold St.roE at h
  split at h
  · cases h
  · split at h
    · cases h
    · rename_i x0 hx
      simp only [Option.some.injEq, Prod.mk.injEq] at h
      obtain ⟨rfl, rfl, rfl⟩ := h
      exact ⟨List.mem_of_getElem? (nth_eq _ _ ▸ hx), rfl, rfl, rfl, rfl⟩

/-- Which numbers the blocks made so far have. -/
abbrev Dom := Key → Option Nat
def Ag (D : Dom) (ν : Key → Nat) : Prop := ∀ k n, D k = some n → ν k = n
theorem Ag.some (D : Dom) : Ag D (fun k => (D k).getD 0) := fun k n h => by simp [h]
def Dom.put (D : Dom) (k : Key) (n : Nat) : Dom := fun k' => if k' = k then Option.some n else D k'
theorem Ag.of_put {D : Dom} {k : Key} {n : Nat} {ν : Key → Nat} (h : Ag (D.put k n) ν) (hk : D k = none) : Ag D ν ∧ ν k = n := by
  refine ⟨fun k' m hm => h k' m ?_, h k n (by simp [Dom.put])⟩
  unfold Dom.put
  split
  · rename_i e; rw [e, hk] at hm; cases hm
  · exact hm
/-- D' is D and numbers for keys that end in 'key'. -/
structure Dom.Ext (key : Key) (D D' : Dom) : Prop where
  old : ∀ k n, D k = some n → D' k = some n
  new : ∀ k, ¬ key <:+ k → D' k = D k
theorem Dom.Ext.refl (key : Key) (D : Dom) : Dom.Ext key D D := ⟨fun _ _ h => h, fun _ _ => rfl⟩
theorem Dom.Ext.trans {key : Key} {D D' D'' : Dom} (h : Dom.Ext key D D') (k : Dom.Ext key D' D'') : Dom.Ext key D D'' :=
  ⟨fun x n hx => k.old x n (h.old x n hx), fun x hx => (k.new x hx).trans (h.new x hx)⟩
theorem Dom.Ext.mono {key key' : Key} {D D' : Dom} (h : Dom.Ext key D D') (hs : key' <:+ key) : Dom.Ext key' D D' :=
  ⟨h.old, fun x hx => h.new x (fun hk => hx (hs.trans hk))⟩
theorem Ag.ext {key : Key} {D D' : Dom} {ν : Key → Nat} (h : Ag D' ν) (he : Dom.Ext key D D') : Ag D ν := fun k n hk => h k n (he.old k n hk)

/-- A slice that is only looked at: no known cell lies in it. -/
def RoOk (C : Nat → Nat → Prop) (B : Nat) (w : World) (r : Ro) : Prop :=
  r.a.spot = none ∧ r.a.block < B ∧ ∀ j u, r.xs[j]? = some u → w.cell? ⟨r.a.block, r.a.off + j, none⟩ = some u ∧ w.frozen? ⟨r.a.block, r.a.off + j, none⟩ = false ∧ ¬ C r.a.block (r.a.off + j)

/-- The world holds what the list says. 'C', 'B': the cells that were known at the start, the heap's size at the start. -/
structure Inv (C : Nat → Nat → Prop) (B : Nat) (w : World) (st : St) : Prop where
  cell : ∀ c ∈ st.cells, ∀ v, c.v = some v → w.cell? ⟨c.b, c.o, none⟩ = some v
  free : ∀ c ∈ st.cells, w.frozen? ⟨c.b, c.o, none⟩ = false
  dist : st.cells.Pairwise (fun c d => ¬ (c.b = d.b ∧ c.o = d.o))
  shp : ∀ s ∈ st.shapes.l, w.shape? s.1 = some (s.2.1, s.2.2.1)
  lt : ∀ c ∈ st.cells, c.b < w.heap.size
  slt : ∀ s ∈ st.shapes.l, s.1 < w.heap.size
  own : ∀ c ∈ st.cells, C c.b c.o ∨ B ≤ c.b
  vec : ∀ x ∈ st.shapes.vecs, w.ownsRow 0 x.e x.size x.v x.n x.xs
  vsep : ∀ x ∈ st.shapes.vecs, ∀ g, x.v.ownBlock = some g → (∀ c ∈ st.cells, c.b ≠ g) ∧ (∀ s ∈ st.shapes.l, s.1 ≠ g) ∧ ∀ i, C g i ∨ B ≤ g
  vdist : st.shapes.vecs.Pairwise (fun x y => ∀ g, x.v.ownBlock = some g → y.v.ownBlock ≠ some g)
  sfresh : ∀ s ∈ st.shapes.l, s.2.2.2 = [] ∨ B ≤ s.1
  sdist : st.shapes.l.Pairwise (fun s s' => (s.2.2.2 = [] ∧ s'.2.2.2 = []) ∨ s.1 ≠ s'.1)
  ro : ∀ r ∈ st.shapes.ros, RoOk C B w r

/-- What the world may have become: of the old blocks the cells in 'C' alone. -/
structure Sub (C : Nat → Nat → Prop) (w w' : World) : Prop where
  os : w'.os = w.os
  tape : w'.tape = w.tape
  output : w'.output = w.output
  size : w.heap.size ≤ w'.heap.size
  block : ∀ k, k < w.heap.size → ∀ o, w.heap[k]? = some o → match o with
    | .cells c t f => ∃ c', w'.heap[k]? = some (.cells c' t f) ∧ c'.size = c.size ∧ ∀ i, ¬ C k i → c'[i]? = c[i]?
    | o => w'.heap[k]? = some o
  fresh : ∀ k, w.heap.size ≤ k → ∀ c t f, w'.heap[k]? = some (.cells c t f) → f = (0, 0)

theorem RoOk.sub {C : Nat → Nat → Prop} {B : Nat} {w w' : World} {r : Ro} (h : RoOk C B w r) (hs : Sub (fun k i => C k i ∨ B ≤ k) w w') : RoOk C B w' r := by
  obtain ⟨h1, h2, h3⟩ := h
  refine ⟨h1, h2, fun j u hu => ?_⟩
  obtain ⟨h4, h5, h6⟩ := h3 j u hu
  have hl : r.a.block < w.heap.size := by
    rcases Nat.lt_or_ge r.a.block w.heap.size with hl | hl
    · exact hl
    · simp [World.cell?, Array.getElem?_eq_none hl] at h4
  have a := hs.block r.a.block hl _ (Array.getElem?_eq_getElem hl)
  have e0 : w.heap[r.a.block]? = some w.heap[r.a.block] := Array.getElem?_eq_getElem hl
  generalize w.heap[r.a.block] = o at a e0
  cases o with
  | cells c t f =>
    obtain ⟨c', e1, _, e3⟩ := a
    have := e3 (r.a.off + j) (fun hc => by rcases hc with hc | hc; exact h6 hc; omega)
    refine ⟨?_, ?_, h6⟩
    · simp only [World.cell?, e0, e1] at h4 ⊢
      simpa [this] using h4
    · simp only [World.frozen?, e0, e1] at h5 ⊢
      exact h5
  | _ => simp [World.cell?, e0] at h4

theorem no_block {w : World} {k : Nat} (h : w.heap.size ≤ k) {o : Obj} (e : w.heap[k]? = some o) : False := by
  rw [Array.getElem?_eq_none h] at e; cases e

theorem Sub.refl (C : Nat → Nat → Prop) (w : World) : Sub C w w :=
  ⟨rfl, rfl, rfl, Nat.le_refl _, fun k _ o h => by cases o <;> first | exact h | exact ⟨_, h, rfl, fun _ _ => rfl⟩, fun _ hk _ _ _ e => (no_block hk e).elim⟩

theorem Sub.trans {C : Nat → Nat → Prop} {B : Nat} {w w1 w2 : World} (h : Sub C w w1) (h2 : Sub (fun k i => C k i ∨ B ≤ k) w1 w2) (hB : w.heap.size ≤ B) : Sub C w w2 := by
  refine ⟨h2.os.trans h.os, h2.tape.trans h.tape, h2.output.trans h.output, Nat.le_trans h.size h2.size, fun k hk o ho => ?_, fun k hk c t f e => ?_⟩
  rotate_left
  · rcases Nat.lt_or_ge k w1.heap.size with h1 | h1
    · have e1 : w1.heap[k]? = some w1.heap[k] := Array.getElem?_eq_getElem h1
      have a := h2.block k h1 _ e1
      generalize w1.heap[k] = o at a e1
      cases o with
      | cells c1 t1 f1 =>
        obtain ⟨c', e2, _⟩ := a
        rw [e2] at e
        simp only [Option.some.injEq, Obj.cells.injEq] at e
        rw [← e.2.2]
        exact h.fresh k hk c1 t1 f1 e1
      | _ => simp only at a; rw [a] at e; cases e
    · exact h2.fresh k h1 c t f e
  have a := h.block k hk o ho
  cases o with
  | cells c t f =>
    obtain ⟨c1, e1, s1, r1⟩ := a
    obtain ⟨c2, e2, s2, r2⟩ := h2.block k (Nat.lt_of_lt_of_le hk h.size) _ e1
    exact ⟨c2, e2, s2.trans s1, fun i hi => (r2 i (fun hc => by rcases hc with hc | hc; exact hi hc; omega)).trans (r1 i hi)⟩
  | _ => exact h2.block k (Nat.lt_of_lt_of_le hk h.size) _ a

theorem Sub.mono {C C' : Nat → Nat → Prop} {w w' : World} (h : Sub C w w') (hC : ∀ k i, C k i → C' k i) : Sub C' w w' :=
  ⟨h.os, h.tape, h.output, h.size, fun k hk o ho => by
    have a := h.block k hk o ho
    cases o with
    | cells c t f => obtain ⟨c1, e1, s1, r1⟩ := a; exact ⟨c1, e1, s1, fun i hi => r1 i (fun hc => hi (hC k i hc))⟩
    | _ => exact a, h.fresh⟩

theorem Sub.alloc (C : Nat → Nat → Prop) (w : World) (o : Obj) (hz : ∀ c t f, o = .cells c t f → f = (0, 0)) : Sub C w { w with heap := w.heap.push o } :=
  ⟨rfl, rfl, rfl, by simp, fun k hk o' h => by
    have e : (w.heap.push o)[k]? = some o' := by rw [Array.getElem?_push, if_neg (by omega)]; exact h
    cases o' <;> first | exact e | exact ⟨_, e, rfl, fun _ _ => rfl⟩, fun k hk c t f e => by
    simp only [Array.getElem?_push] at e
    split at e
    · simp only [Option.some.injEq] at e; exact hz c t f e
    · exact (no_block hk e).elim⟩

theorem heap_set (w : World) (b o : Nat) (v : Value) (k : Nat) : (w.setCell ⟨b, o, none⟩ v).heap[k]? =
    if b = k then (w.heap[k]?).map (fun x => match x with | .cells c e f => .cells (c.setIfInBounds o v) e f | x => x) else w.heap[k]? := by
  simp only [World.setCell, Array.getElem?_modify]
  by_cases h : b = k
  · rw [if_pos h, if_pos h]
    cases w.heap[k]? with
    | none => rfl
    | some o' => cases o' <;> rfl
  · rw [if_neg h, if_neg h]

theorem Sub.setCell {C : Nat → Nat → Prop} {w : World} {b o : Nat} {v : Value} (h : C b o) : Sub C w (w.setCell ⟨b, o, none⟩ v) := by
  refine ⟨rfl, rfl, rfl, by simp [World.setCell], fun k hk o' h' => ?_, fun k hk c t f e => (no_block (w := w.setCell ⟨b, o, none⟩ v) (by simpa [World.setCell] using hk) e).elim⟩
  have e := heap_set w b o v k
  rw [h'] at e
  by_cases hb : b = k
  · rw [if_pos hb] at e
    subst hb
    cases o' with
    | cells c t f =>
      refine ⟨_, e, by simp, fun i hi => ?_⟩
      rw [Array.getElem?_setIfInBounds_ne]
      rintro rfl
      exact hi h
    | _ => exact e
  · rw [if_neg hb] at e
    cases o' <;> first | exact e | exact ⟨_, e, rfl, fun _ _ => rfl⟩

theorem Sub.drawn (C : Nat → Nat → Prop) (w : World) (n : Nat) : Sub C w { w with drawn := n } :=
  ⟨rfl, rfl, rfl, Nat.le_refl _, fun k _ o h => by cases o <;> first | exact h | exact ⟨_, h, rfl, fun _ _ => rfl⟩, fun _ hk _ _ _ e => (no_block (w := w) hk e).elim⟩

/-! ### One operation's run -/
section
variable {S : Strat} {P : Program}

theorem sem_mono {ν : Key → Nat} {key : Key} {α : Type} (s : Sem α) : ∀ (j : Nat) (st : St) (r : α) (st' : St), sem S P ν key s j st = some (r, st') → st'.Ok → st.Ok := by
  induction s with
  | pure a => intro j st r st' h hk; simp only [sem, Option.some.injEq, Prod.mk.injEq] at h; obtain ⟨rfl, rfl⟩ := h; exact hk
  | load m a k ih =>
    intro j st r st' h hk
    simp only [sem] at h
    split at h
    · rename_i s1 hl
      split at h
      · rename_i s2 hg
        have h1 := ih _ _ _ _ _ h hk
        obtain ⟨h2, _⟩ := guess_ok hg ⟨fun p hp => h1.eqs p (List.mem_cons_of_mem _ hp), h1.conds⟩
        obtain ⟨_, _, _, _, e1, e2⟩ := elem_ok hl
        exact ⟨fun p hp => h2.eqs p (by rw [e1]; exact hp), fun p hp => h2.conds p (by rw [e2]; exact hp)⟩
      · cases h
    · split at h
      · rename_i r0 κ s1 hl
        split at h
        · rename_i s2 hg
          split at h
          · rename_i s3 hg3
            have h1 := ih _ _ _ _ _ h hk
            obtain ⟨h2, _⟩ := guess_ok hg (guess_ok hg3 ⟨fun p hp => h1.eqs p (List.mem_cons_of_mem _ hp), h1.conds⟩).1
            obtain ⟨_, _, _, e1, e2⟩ := roE_ok hl
            exact ⟨fun p hp => h2.eqs p (by rw [e1]; exact hp), fun p hp => h2.conds p (by rw [e2]; exact hp)⟩
          · cases h
        · cases h
      split at h
      · rename_i i c s1 hl
        split at h
        · exact (look_ok hl (ih _ _ _ _ _ h hk)).1
        · cases h
      · cases h
  | store m a v k ih =>
    intro j st r st' h hk
    simp only [sem] at h
    split at h
    · split at h
      · rename_i s1 hl
        split at h
        · rename_i s2 hg
          have h1 := ih _ _ _ _ h hk
          obtain ⟨h2, _⟩ := guess_ok hg ⟨fun p hp => h1.eqs p (List.mem_cons_of_mem _ hp), h1.conds⟩
          obtain ⟨_, _, _, _, e1, e2⟩ := elem_ok hl
          exact ⟨fun p hp => h2.eqs p (by rw [e1]; exact hp), fun p hp => h2.conds p (by rw [e2]; exact hp)⟩
        · cases h
      · split at h
        · rename_i i c s1 hl
          split at h
          · have h1 := ih _ _ _ _ h hk
            exact (look_ok hl ⟨h1.eqs, h1.conds⟩).1
          · cases h
        · cases h
    · cases h
  | new o k ih =>
    intro j st r st' h hk
    simp only [sem] at h
    split at h
    · split at h
      · have h1 := ih _ _ _ _ _ h hk
        exact ⟨h1.eqs, h1.conds⟩
      · cases h
    · cases h
  | shape r k ih =>
    intro j st r' st' h hk
    simp only [sem] at h
    split at h
    · cases h
    · split at h
      · cases h
      · have h1 := ih _ _ _ _ _ h hk
        exact ⟨fun p hp => h1.eqs p (List.mem_cons_of_mem _ hp), h1.conds⟩
  | frozen a k ih =>
    intro j st r st' h hk
    simp only [sem] at h
    split at h
    · rename_i s1 hl
      have h1 := ih _ _ _ _ _ h hk
      obtain ⟨_, _, _, _, e1, e2⟩ := elem_ok hl
      exact ⟨fun p hp => h1.eqs p (List.mem_cons_of_mem _ (by rw [e1]; exact hp)), fun p hp => h1.conds p (by rw [e2]; exact hp)⟩
    · split at h
      · rename_i i c s1 hl
        exact (look_ok hl (ih _ _ _ _ _ h hk)).1
      · cases h
  | program k ih => intro j st r st' h hk; simp only [sem] at h; exact ih _ _ _ _ _ h hk
  | mark m k ih => intro j st r st' h hk; simp only [sem] at h; exact ih _ _ _ _ h hk
  | _ => intro j st r st' h hk; simp [sem] at h

theorem mem_setVal {v : Value} : ∀ {l : List Cell} {i : Nat} {c : Cell}, c ∈ setVal v l i → ∃ d ∈ l, c.b = d.b ∧ c.o = d.o ∧ (c = d ∨ (l[i]? = some d ∧ c.v = some v))
  | d :: r, 0, c, h => by
    rcases List.mem_cons.1 h with rfl | h
    · exact ⟨d, List.mem_cons_self .., rfl, rfl, .inr ⟨rfl, rfl⟩⟩
    · exact ⟨c, List.mem_cons_of_mem _ h, rfl, rfl, .inl rfl⟩
  | d :: r, i + 1, c, h => by
    rcases List.mem_cons.1 h with rfl | h
    · exact ⟨c, List.mem_cons_self .., rfl, rfl, .inl rfl⟩
    · obtain ⟨e, he, h1, h2, h3⟩ := mem_setVal h
      exact ⟨e, List.mem_cons_of_mem _ he, h1, h2, h3.imp id (fun ⟨a, b⟩ => ⟨by simpa using a, b⟩)⟩

theorem setVal_dist {v : Value} : ∀ {l : List Cell} {i : Nat}, l.Pairwise (fun c d => ¬ (c.b = d.b ∧ c.o = d.o)) → (setVal v l i).Pairwise (fun c d => ¬ (c.b = d.b ∧ c.o = d.o))
  | [], _, _ => by simp [setVal]
  | d :: r, 0, h => by
    rw [List.pairwise_cons] at h
    exact List.pairwise_cons.2 ⟨fun c hc => h.1 c hc, h.2⟩
  | d :: r, i + 1, h => by
    rw [List.pairwise_cons] at h
    refine List.pairwise_cons.2 ⟨fun c hc => ?_, setVal_dist h.2⟩
    obtain ⟨e, he, h1, h2, _⟩ := mem_setVal hc
    rw [h1, h2]
    exact h.1 e he

theorem cell?_set (w : World) (b o : Nat) (v : Value) (b' o' : Nat) : (w.setCell ⟨b, o, none⟩ v).cell? ⟨b', o', none⟩ =
    if b = b' ∧ o = o' then (w.cell? ⟨b', o', none⟩).map (fun _ => v) else w.cell? ⟨b', o', none⟩ := by
  simp only [World.cell?, heap_set]
  by_cases hb : b = b'
  · subst hb
    simp only [if_true, true_and]
    cases w.heap[b]? with
    | none => simp
    | some x =>
      cases x with
      | cells c e f =>
        simp only [Option.map_some]
        by_cases ho : o = o'
        · subst ho
          simp only [if_true, Option.isSome_none, Bool.false_eq_true, if_false]
          by_cases hs : o < c.size
          · simp [hs]
          · simp [hs]
        · rw [if_neg ho]
          simp [Array.getElem?_setIfInBounds_ne ho]
      | _ => simp
  · simp [hb]

theorem frozen?_set (w : World) (b o : Nat) (v : Value) (a : Addr) : (w.setCell ⟨b, o, none⟩ v).frozen? a = w.frozen? a := by
  simp only [World.frozen?, heap_set]
  by_cases hb : b = a.block
  · simp only [hb, if_true]
    cases w.heap[a.block]? with
    | none => rfl
    | some x => cases x <;> rfl
  · simp [hb]

theorem shape?_set (w : World) (b o : Nat) (v : Value) (r : Nat) : (w.setCell ⟨b, o, none⟩ v).shape? r = w.shape? r := by
  simp only [World.shape?, heap_set]
  by_cases hb : b = r
  · simp only [hb, if_true]
    cases w.heap[r]? with
    | none => rfl
    | some x => cases x <;> simp
  · simp [hb]

theorem mem_setVal' {v : Value} {d : Cell} : ∀ {l : List Cell} {i : Nat} {c : Cell}, l.Pairwise (fun c d => ¬ (c.b = d.b ∧ c.o = d.o)) → l[i]? = some d → c ∈ setVal v l i →
    (c ∈ l ∧ ¬ (c.b = d.b ∧ c.o = d.o)) ∨ (c.b = d.b ∧ c.o = d.o ∧ c.v = some v)
  | e :: r, 0, c, hp, hi, h => by
    simp only [List.getElem?_cons_zero, Option.some.injEq] at hi
    subst hi
    rw [List.pairwise_cons] at hp
    rcases List.mem_cons.1 h with rfl | h
    · exact .inr ⟨rfl, rfl, rfl⟩
    · exact .inl ⟨List.mem_cons_of_mem _ h, fun hh => hp.1 c h ⟨hh.1.symm, hh.2.symm⟩⟩
  | e :: r, i + 1, c, hp, hi, h => by
    simp only [List.getElem?_cons_succ] at hi
    rw [List.pairwise_cons] at hp
    rcases List.mem_cons.1 h with rfl | h
    · exact .inl ⟨List.mem_cons_self .., hp.1 d (List.mem_of_getElem? hi)⟩
    · exact (mem_setVal' hp.2 hi h).imp (fun ⟨a, b⟩ => ⟨List.mem_cons_of_mem _ a, b⟩) id

theorem _root_.Go.World.ownsRow.far {w w' : World} {e size n : Nat} {v : Value} {xs : List Value} (h : w.ownsRow 0 e size v n xs) (hk : ∀ g, v.ownBlock = some g → w'.heap[g]? = w.heap[g]?) : w'.ownsRow 0 e size v n xs := by
  refine ⟨h.1, h.2.imp id ?_⟩
  rintro ⟨g, cap, cur, hv, h0, hg, r⟩
  exact ⟨g, cap, cur, hv, h0, by rw [hk g (by rw [hv]; rfl)]; exact hg, r⟩

theorem Inv.set {C : Nat → Nat → Prop} {B : Nat} {w : World} {st : St} (h : Inv C B w st) {i : Nat} {c : Cell} {u v : Value} (hi : st.cells[i]? = some c) (hc : c.v = some u) :
    Inv C B (w.setCell ⟨c.b, c.o, none⟩ v) { st with cells := setVal v st.cells i } := by
  have hm : c ∈ st.cells := List.mem_of_getElem? hi
  refine ⟨fun d hd x hx => ?_, fun d hd => ?_, setVal_dist h.dist, fun s hs => ?_, fun d hd => ?_, fun s hs => ?_, fun d hd => ?_, fun x hx => ?_, fun x hx g hg => ⟨fun d hd => ?_, (h.vsep x hx g hg).2⟩, h.vdist, h.sfresh, h.sdist, fun r hr => (h.ro r hr).sub (Sub.setCell (h.own c hm))⟩
  · rw [cell?_set]
    rcases mem_setVal' h.dist hi hd with ⟨h1, h2⟩ | ⟨h1, h2, h3⟩
    · rw [if_neg (fun hh => h2 ⟨hh.1.symm, hh.2.symm⟩)]
      exact h.cell d h1 x hx
    · rw [h1, h2, if_pos ⟨rfl, rfl⟩, h.cell c hm u hc]
      rw [hx] at h3
      cases h3
      rfl
  · obtain ⟨e, he, h1, h2, _⟩ := mem_setVal hd
    rw [frozen?_set, h1, h2]
    exact h.free e he
  · rw [shape?_set]; exact h.shp s hs
  · obtain ⟨e, he, h1, h2, _⟩ := mem_setVal hd
    rw [h1]
    simpa [World.setCell] using h.lt e he
  · simpa [World.setCell] using h.slt s hs
  · obtain ⟨e, he, h1, h2, _⟩ := mem_setVal hd
    rw [h1, h2]
    exact h.own e he
  · refine (h.vec x hx).far (fun g hg => ?_)
    have hne : c.b ≠ g := (h.vsep x hx g hg).1 c hm
    rw [heap_set, if_neg hne]
  · obtain ⟨e, he, h1, h2, _⟩ := mem_setVal hd
    rw [h1]
    exact (h.vsep x hx g hg).1 e he

theorem heap_lt_of_own {w : World} {e size n : Nat} {v : Value} {xs : List Value} (h : w.ownsRow 0 e size v n xs) {g : Nat} (hg : v.ownBlock = some g) : g < w.heap.size :=
  (h.lt g hg).2

abbrev Apart (c d : Cell) : Prop := ¬ (c.b = d.b ∧ c.o = d.o)

theorem mem_newCells {n : Nat} {key : Key} : ∀ {l : List Value} {i : Nat} {d : Cell}, d ∈ newCells n key l i → ∃ j v, l[j]? = some v ∧ d = ⟨n, i + j, some v, key⟩
  | v :: r, i, d, h => by
    rcases List.mem_cons.1 h with rfl | h
    · exact ⟨0, v, rfl, rfl⟩
    · obtain ⟨j, u, h1, h2⟩ := mem_newCells h
      exact ⟨j + 1, u, by simpa using h1, by rw [h2]; congr 1; omega⟩

theorem newCells_dist {n : Nat} {key : Key} : ∀ {l : List Value} {i : Nat}, (newCells n key l i).Pairwise Apart
  | [], _ => List.Pairwise.nil
  | v :: r, i => List.pairwise_cons.2 ⟨fun d hd => by
      obtain ⟨j, u, _, rfl⟩ := mem_newCells hd
      intro hh
      have := hh.2
      simp at this
      omega, newCells_dist⟩

theorem mem_putNew {new : List Cell} {key : Key} : ∀ {l : List Cell} {d : Cell}, d ∈ putNew new key l → d ∈ new ∨ d ∈ l
  | [], d, h => .inl h
  | c :: r, d, h => by
    simp only [putNew] at h
    split at h
    · exact (List.mem_append.1 h)
    · rcases List.mem_cons.1 h with rfl | h
      · exact .inr (List.mem_cons_self ..)
      · exact (mem_putNew h).imp id (List.mem_cons_of_mem _)

theorem putNew_dist {new : List Cell} {key : Key} (hn : new.Pairwise Apart) : ∀ {l : List Cell}, l.Pairwise Apart → (∀ c ∈ new, ∀ d ∈ l, c.b ≠ d.b) → (putNew new key l).Pairwise Apart
  | [], _, _ => hn
  | c :: r, h, hx => by
    simp only [putNew]
    split
    · exact List.pairwise_append.2 ⟨hn, h, fun a ha b hb hh => hx a ha b hb hh.1⟩
    · rw [List.pairwise_cons] at h
      refine List.pairwise_cons.2 ⟨fun d hd hh => ?_, putNew_dist hn h.2 (fun a ha b hb => hx a ha b (List.mem_cons_of_mem _ hb))⟩
      rcases mem_putNew hd with hd | hd
      · exact hx d hd c (List.mem_cons_self ..) hh.1.symm
      · exact h.1 d hd hh

theorem mem_putShape {new : Nat × TypeId × Nat × Key} : ∀ {l : List (Nat × TypeId × Nat × Key)} {d : Nat × TypeId × Nat × Key}, d ∈ putShape new l → d = new ∨ d ∈ l
  | [], d, h => .inl (by simpa [putShape] using h)
  | c :: r, d, h => by
    simp only [putShape] at h
    split at h
    · exact (List.mem_cons.1 h)
    · rcases List.mem_cons.1 h with rfl | h
      · exact .inr (List.mem_cons_self ..)
      · exact (mem_putShape h).imp id (List.mem_cons_of_mem _)

theorem putShape_dist {R : Nat × TypeId × Nat × Key → Nat × TypeId × Nat × Key → Prop} {new : Nat × TypeId × Nat × Key} : ∀ {l : List (Nat × TypeId × Nat × Key)}, (∀ d ∈ l, R new d) → (∀ d ∈ l, R d new) → l.Pairwise R → (putShape new l).Pairwise R
  | [], _, _, _ => List.pairwise_singleton ..
  | c :: r, h1, h2, h => by
    simp only [putShape]
    split
    · exact List.pairwise_cons.2 ⟨h1, h⟩
    · rw [List.pairwise_cons] at h
      refine List.pairwise_cons.2 ⟨fun d hd => ?_, putShape_dist (fun d hd => h1 d (List.mem_cons_of_mem _ hd)) (fun d hd => h2 d (List.mem_cons_of_mem _ hd)) h.2⟩
      rcases mem_putShape hd with rfl | hd
      · exact h2 c (List.mem_cons_self ..)
      · exact h.1 d hd

theorem Inv.new {C : Nat → Nat → Prop} {B : Nat} {w : World} {st : St} (h : Inv C B w st) (c : Array Value) (e : TypeId) (key : Key) (hB : B ≤ w.heap.size) :
    Inv C B { w with heap := w.heap.push (.cells c e (0, 0)) } { st with cells := putNew (newCells w.heap.size key c.toList 0) key st.cells, shapes := { st.shapes with l := putShape (w.heap.size, e, c.size, key) st.shapes.l } } := by
  have old : ∀ k, k < w.heap.size → (w.heap.push (.cells c e (0, 0)))[k]? = w.heap[k]? := fun k hk => by rw [Array.getElem?_push, if_neg (by omega)]
  have now : (w.heap.push (.cells c e (0, 0)))[w.heap.size]? = some (.cells c e (0, 0)) := by rw [Array.getElem?_push, if_pos rfl]
  refine ⟨fun d hd x hx => ?_, fun d hd => ?_, putNew_dist newCells_dist h.dist (fun a ha b hb => ?_), fun s hs => ?_, fun d hd => ?_, fun s hs => ?_, fun d hd => ?_,
    fun x hx => (h.vec x hx).far (fun g hg => old g (heap_lt_of_own (h.vec x hx) hg)), fun x hx g hg => ⟨fun d hd => ?_, fun s hs => ?_, (h.vsep x hx g hg).2.2⟩, h.vdist, fun s hs => ?_, putShape_dist (fun d hd => .inr (Nat.ne_of_lt (h.slt d hd)).symm) (fun d hd => .inr (Nat.ne_of_lt (h.slt d hd))) h.sdist, fun r hr => (h.ro r hr).sub (Sub.alloc _ w _ (fun _ _ _ hh => by cases hh; rfl))⟩
  · rcases mem_putNew hd with hd | hd
    · obtain ⟨j, v, hj, rfl⟩ := mem_newCells hd
      simp only [Option.some.injEq] at hx
      subst hx
      simp only [World.cell?, now, Option.isSome_none, Bool.false_eq_true, if_false, Nat.zero_add]
      simpa using hj
    · have := h.cell d hd x hx
      simp only [World.cell?, old _ (h.lt d hd)] at this ⊢
      exact this
  · rcases mem_putNew hd with hd | hd
    · obtain ⟨j, v, hj, rfl⟩ := mem_newCells hd
      simp [World.frozen?, now]
    · have := h.free d hd
      simp only [World.frozen?, old _ (h.lt d hd)] at this ⊢
      exact this
  · obtain ⟨j, v, hj, rfl⟩ := mem_newCells ha
    have := h.lt b hb
    simp only [ne_eq]
    omega
  · rcases mem_putShape hs with rfl | hs
    · simp [World.shape?, now]
    · have := h.shp s hs
      simp only [World.shape?, old _ (h.slt s hs)] at this ⊢
      exact this
  · simp only [Array.size_push]
    rcases mem_putNew hd with hd | hd
    · obtain ⟨j, v, hj, rfl⟩ := mem_newCells hd
      simp
    · have := h.lt d hd; omega
  · simp only [Array.size_push]
    rcases mem_putShape hs with rfl | hs
    · simp
    · have := h.slt s hs; omega
  · rcases mem_putNew hd with hd | hd
    · obtain ⟨j, v, hj, rfl⟩ := mem_newCells hd
      exact .inr hB
    · exact h.own d hd
  · rcases mem_putNew hd with hd | hd
    · obtain ⟨j, v, hj, rfl⟩ := mem_newCells hd
      have := heap_lt_of_own (h.vec x hx) hg
      simp only [ne_eq]
      omega
    · exact (h.vsep x hx g hg).1 d hd
  · have := heap_lt_of_own (h.vec x hx) hg
    rcases mem_putShape hs with rfl | hs
    · simp only [ne_eq]
      omega
    · exact (h.vsep x hx g hg).2.1 s hs
  · rcases mem_putShape hs with rfl | hs
    · exact .inr hB
    · exact h.sfresh s hs

theorem Inv.of_cells {C : Nat → Nat → Prop} {B : Nat} {w : World} {st st' : St} (h : Inv C B w st) (hc : st'.cells = st.cells) (hs : st'.shapes = st.shapes) : Inv C B w st' :=
  ⟨by rw [hc]; exact h.cell, by rw [hc]; exact h.free, by rw [hc]; exact h.dist, by rw [hs]; exact h.shp, by rw [hc]; exact h.lt, by rw [hs]; exact h.slt, by rw [hc]; exact h.own, by rw [hs]; exact h.vec, by rw [hs, hc]; exact h.vsep, by rw [hs]; exact h.vdist, by rw [hs]; exact h.sfresh, by rw [hs]; exact h.sdist, by rw [hs]; exact h.ro⟩

/-- What is no longer needed is let go. -/
def dropBits {α : Type} : List Bool → List α → List α
  | [], l => l
  | _ :: _, [] => []
  | b :: bs, c :: l => match b with
    | true => c :: dropBits bs l
    | false => dropBits bs l
theorem dropBits_sub {α : Type} : ∀ (bs : List Bool) (l : List α), (dropBits bs l).Sublist l
  | [], l => List.Sublist.refl _
  | _ :: _, [] => List.Sublist.refl _
  | b :: bs, c :: l => by
    simp only [dropBits]
    split
    · exact (dropBits_sub bs l).cons_cons c
    · exact (dropBits_sub bs l).cons c
def St.drop (st : St) (bs bs' : List Bool) : St := { st with cells := dropBits bs st.cells, shapes := { st.shapes with l := dropBits bs' st.shapes.l } }
theorem Inv.drop {C : Nat → Nat → Prop} {B : Nat} {w : World} {st : St} (h : Inv C B w st) (bs bs' : List Bool) : Inv C B w (st.drop bs bs') := by
  have hc : ∀ c ∈ dropBits bs st.cells, c ∈ st.cells := fun c hc => (dropBits_sub _ _).subset hc
  have hs : ∀ s ∈ dropBits bs' st.shapes.l, s ∈ st.shapes.l := fun c hc => (dropBits_sub _ _).subset hc
  exact ⟨fun c h1 => h.cell c (hc c h1), fun c h1 => h.free c (hc c h1), h.dist.sublist (dropBits_sub _ _), fun s h1 => h.shp s (hs s h1), fun c h1 => h.lt c (hc c h1), fun s h1 => h.slt s (hs s h1), fun c h1 => h.own c (hc c h1), h.vec,
    fun x hx g hg => ⟨fun c h1 => (h.vsep x hx g hg).1 c (hc c h1), fun s h1 => (h.vsep x hx g hg).2.1 s (hs s h1), (h.vsep x hx g hg).2.2⟩, h.vdist, fun s h1 => h.sfresh s (hs s h1), h.sdist.sublist (dropBits_sub _ _), h.ro⟩

theorem pick {D : Dom} {X : Type} (x0 : X) {Q : (Key → Nat) → X → Prop} (h : ∀ ν, Ag D ν → ∃ x, Q ν x) : ∃ f : (Key → Nat) → X, ∀ ν, Ag D ν → Q ν (f ν) := by
  classical
  refine ⟨fun ν => if hν : Ag D ν then Classical.choose (h ν hν) else x0, fun ν hν => ?_⟩
  simp only [dif_pos hν]
  exact Classical.choose_spec (h ν hν)

/-- For all numberings that agree so far: the world holds the list, and the list is one. -/
structure Fam (C : Nat → Nat → Prop) (B : Nat) (D : Dom) (w : World) (st : (Key → Nat) → St) : Prop where
  inv : ∀ ν, Ag D ν → Inv C B w (st ν)
  uni : ∀ ν ν', Ag D ν → Ag D ν' → (st ν).cells = (st ν').cells ∧ (st ν).shapes = (st ν').shapes

theorem Fam.of_cells {C : Nat → Nat → Prop} {B : Nat} {D : Dom} {w : World} {st st' : (Key → Nat) → St} (h : Fam C B D w st) (hc : ∀ ν, Ag D ν → (st' ν).cells = (st ν).cells ∧ (st' ν).shapes = (st ν).shapes) : Fam C B D w st' :=
  ⟨fun ν hν => (h.inv ν hν).of_cells (hc ν hν).1 (hc ν hν).2, fun ν ν' hν hν' => ⟨((hc ν hν).1.trans (h.uni ν ν' hν hν').1).trans (hc ν' hν').1.symm, ((hc ν hν).2.trans (h.uni ν ν' hν hν').2).trans (hc ν' hν').2.symm⟩⟩

theorem Fam.sub {C : Nat → Nat → Prop} {B : Nat} {D D' : Dom} {w : World} {st : (Key → Nat) → St} (h : Fam C B D w st) (hs : ∀ ν, Ag D' ν → Ag D ν) : Fam C B D' w st :=
  ⟨fun ν hν => h.inv ν (hs ν hν), fun ν ν' hν hν' => h.uni ν ν' (hs ν hν) (hs ν' hν')⟩

theorem Fam.congr {C : Nat → Nat → Prop} {B : Nat} {D : Dom} {w : World} {st st' : (Key → Nat) → St} (h : Fam C B D w st) (hc : ∀ ν, Ag D ν → st' ν = st ν) : Fam C B D w st' :=
  h.of_cells fun ν hν => by rw [hc ν hν]; exact ⟨rfl, rfl⟩

theorem idx_one : ∀ {l : List Cell} {i j : Nat} {c d : Cell}, l.Pairwise Apart → l[i]? = some c → l[j]? = some d → c.b = d.b → c.o = d.o → i = j
  | [], i, _, _, _, _, h, _, _, _ => by simp at h
  | e :: l, 0, 0, _, _, _, _, _, _, _ => rfl
  | e :: l, 0, j + 1, c, d, hp, hi, hj, h1, h2 => by
    simp only [List.getElem?_cons_zero, Option.some.injEq] at hi
    subst hi
    simp only [List.getElem?_cons_succ] at hj
    exact absurd ⟨h1, h2⟩ ((List.pairwise_cons.1 hp).1 d (List.mem_of_getElem? hj))
  | e :: l, i + 1, 0, c, d, hp, hi, hj, h1, h2 => by
    simp only [List.getElem?_cons_zero, Option.some.injEq] at hj
    subst hj
    simp only [List.getElem?_cons_succ] at hi
    exact absurd ⟨h1.symm, h2.symm⟩ ((List.pairwise_cons.1 hp).1 c (List.mem_of_getElem? hi))
  | e :: l, i + 1, j + 1, c, d, hp, hi, hj, h1, h2 => by
    simp only [List.getElem?_cons_succ] at hi hj
    rw [idx_one (List.pairwise_cons.1 hp).2 hi hj h1 h2]

theorem mem_setVecI {x x' y : Vec} : ∀ {l : List Vec} {i : Nat}, l[i]? = some x → y ∈ setVec x' l i → y = x' ∨ ∃ j, j ≠ i ∧ l[j]? = some y
  | z :: r, 0, _, h => by
    rcases List.mem_cons.1 h with rfl | h
    · exact .inl rfl
    · obtain ⟨j, hj⟩ := List.mem_iff_getElem?.1 h
      exact .inr ⟨j + 1, by omega, by simpa using hj⟩
  | z :: r, i + 1, hi, h => by
    simp only [List.getElem?_cons_succ] at hi
    rcases List.mem_cons.1 h with rfl | h
    · exact .inr ⟨0, by omega, rfl⟩
    · rcases mem_setVecI hi h with rfl | ⟨j, hj, e⟩
      · exact .inl rfl
      · exact .inr ⟨j + 1, by omega, by simpa using e⟩
theorem setVec_v {x x' : Vec} (hv : x'.v = x.v) : ∀ {l : List Vec} {i : Nat}, l[i]? = some x → (setVec x' l i).map Vec.v = l.map Vec.v
  | z :: r, 0, hi => by
    simp only [List.getElem?_cons_zero, Option.some.injEq] at hi
    subst hi
    simp only [setVec, List.map_cons, hv]
  | z :: r, i + 1, hi => by
    simp only [List.getElem?_cons_succ] at hi
    simp only [setVec, List.map_cons, setVec_v hv hi]
theorem pair_ne : ∀ {l : List Vec} {i j : Nat} {x y : Vec}, l.Pairwise (fun x y => ∀ g, x.v.ownBlock = some g → y.v.ownBlock ≠ some g) → l[i]? = some x → l[j]? = some y → i ≠ j → ∀ g, x.v.ownBlock = some g → y.v.ownBlock ≠ some g
  | a :: l, 0, 0, _, _, _, _, _, h, _, _ => absurd rfl h
  | a :: l, 0, j + 1, x, y, hp, hi, hj, _, g, hg => by
    simp only [List.getElem?_cons_zero, Option.some.injEq] at hi
    simp only [List.getElem?_cons_succ] at hj
    subst hi
    exact (List.pairwise_cons.1 hp).1 y (List.mem_of_getElem? hj) g hg
  | a :: l, i + 1, 0, x, y, hp, hi, hj, _, g, hg => by
    simp only [List.getElem?_cons_zero, Option.some.injEq] at hj
    simp only [List.getElem?_cons_succ] at hi
    subst hj
    exact fun hg' => (List.pairwise_cons.1 hp).1 x (List.mem_of_getElem? hi) g hg' hg
  | a :: l, i + 1, j + 1, x, y, hp, hi, hj, h, g, hg => by
    simp only [List.getElem?_cons_succ] at hi hj
    exact pair_ne (List.pairwise_cons.1 hp).2 hi hj (by omega) g hg
/-- A slice's own cells. -/
theorem vec_at {w : World} {e size n m c : Nat} {ad : Addr} {xs : List Value} (h : w.ownsRow 0 e size (.slice (some ad) m c) n xs) : ad = ⟨ad.block, 0, none⟩ ∧ ∀ o, (o < xs.length → w.cell? ⟨ad.block, o, none⟩ = xs[o]?) ∧ w.frozen? ⟨ad.block, o, none⟩ = false := by
  have h2 := h
  rcases h.2 with ⟨q, _⟩ | ⟨g, cap, cur, q, _⟩
  · cases q
  · simp only [Value.slice.injEq, Option.some.injEq] at q
    obtain ⟨rfl, rfl, rfl⟩ := q
    exact ⟨rfl, fun o => ⟨fun ho => h2.cellAt o (by rw [← h2.1]; exact ho), h2.frozenAt o⟩⟩
theorem vec_set {w : World} {e size n m c o : Nat} {ad : Addr} {u : Value} {xs : List Value} (h : w.ownsRow 0 e size (.slice (some ad) m c) n xs) : (w.setCell ⟨ad.block, o, none⟩ u).ownsRow 0 e size (.slice (some ad) m c) n (xs.set o u) := by
  have h2 := h
  rcases h.2 with ⟨q, _⟩ | ⟨g, cap, cur, q, _⟩
  · cases q
  · simp only [Value.slice.injEq, Option.some.injEq] at q
    obtain ⟨rfl, rfl, rfl⟩ := q
    exact (h2.stored o u).1
theorem Inv.setV {C : Nat → Nat → Prop} {B : Nat} {w : World} {st : St} (h : Inv C B w st) {i o m c : Nat} {x : Vec} {ad : Addr} {u : Value} (hi : st.shapes.vecs[i]? = some x) (hv : x.v = .slice (some ad) m c) :
    Inv C B (w.setCell ⟨ad.block, o, none⟩ u) { st with shapes := { st.shapes with vecs := setVec { x with xs := x.xs.set o u } st.shapes.vecs i } } := by
  have hm : x ∈ st.shapes.vecs := List.mem_of_getElem? hi
  have hb : x.v.ownBlock = some ad.block := by rw [hv]; rfl
  have hsep := h.vsep x hm ad.block hb
  have hmap := setVec_v (x := x) (x' := { x with xs := x.xs.set o u }) rfl hi
  have hmem : ∀ y ∈ setVec { x with xs := x.xs.set o u } st.shapes.vecs i, ∃ z ∈ st.shapes.vecs, z.v = y.v := fun y hy => by
    rcases mem_setVecI hi hy with rfl | ⟨j, _, hj⟩
    · exact ⟨x, hm, rfl⟩
    · exact ⟨y, List.mem_of_getElem? hj, rfl⟩
  refine ⟨fun d hd y hy => ?_, fun d hd => ?_, h.dist, fun s hs => ?_, fun d hd => ?_, fun s hs => ?_, h.own, fun y hy => ?_, fun y hy g hg => ?_, ?_, h.sfresh, h.sdist, fun r hr => (h.ro r hr).sub (Sub.setCell (hsep.2.2 o))⟩
  · rw [cell?_set, if_neg (fun hh => hsep.1 d hd hh.1.symm)]
    exact h.cell d hd y hy
  · rw [frozen?_set]; exact h.free d hd
  · rw [shape?_set]; exact h.shp s hs
  · simpa [World.setCell] using h.lt d hd
  · simpa [World.setCell] using h.slt s hs
  · rcases mem_setVecI hi hy with rfl | ⟨j, hne, hj⟩
    · have := h.vec x hm
      simp only
      rw [hv] at this ⊢
      exact vec_set this
    · refine (h.vec y (List.mem_of_getElem? hj)).far (fun g hg => ?_)
      have : ad.block ≠ g := fun e => pair_ne h.vdist hi hj (fun e => hne e.symm) ad.block hb (by rw [e]; exact hg)
      rw [heap_set, if_neg this]
  · obtain ⟨z, hz, e⟩ := hmem y hy
    rw [← e] at hg
    exact h.vsep z hz g hg
  · have key : ∀ {l : List Vec}, l.Pairwise (fun x y => ∀ g, x.v.ownBlock = some g → y.v.ownBlock ≠ some g) ↔ (l.map Vec.v).Pairwise (fun x y => ∀ g, Value.ownBlock x = some g → Value.ownBlock y ≠ some g) := fun {l} => by rw [List.pairwise_map]
    have hd := h.vdist
    rw [key] at hd ⊢
    simp only
    rw [hmap]
    exact hd
/-- An element that is looked at. -/
theorem elem_cell {S : Strat} {C : Nat → Nat → Prop} {B : Nat} {w : World} {st st' : St} {a : Addr} {i g κ : Nat} {x : Vec} (h : Inv C B w st) (he : st.elemE S a = some (i, x, g, κ, st')) (ha : Value.pointer (some a) = addr g a.off) :
    (∃ ad m c, x.v = .slice (some ad) m c ∧ a = ⟨ad.block, a.off, none⟩) ∧ (∀ v, x.xs[a.off]? = some v → w.cell? a = some v) ∧ w.frozen? a = false := by
  obtain ⟨h1, ⟨ad, m, c, hv, rfl⟩, _⟩ := elem_ok he
  have hx := h.vec x (List.mem_of_getElem? h1)
  rw [hv] at hx
  obtain ⟨e1, e2⟩ := vec_at hx
  have ea : a = ⟨ad.block, a.off, none⟩ := by simpa [addr] using ha
  refine ⟨⟨ad, m, c, hv, ea⟩, fun v hv => ?_, ?_⟩
  · rw [ea]
    exact ((e2 a.off).1 (List.getElem?_eq_some_iff.1 hv).1).trans hv
  · rw [ea]; exact (e2 a.off).2

theorem sem_sound {C : Nat → Nat → Prop} {B : Nat} {key : Key} {α : Type} (s : Sem α) : ∀ (j : Nat) (w : World) (D : Dom) (st : (Key → Nat) → St) (r : (Key → Nat) → α) (st' : (Key → Nat) → St),
    B ≤ w.heap.size → (∀ i, j ≤ i → D (i :: key) = none) → Fam C B D w st →
    (∀ ν, Ag D ν → sem S P ν key s j (st ν) = some (r ν, st' ν) ∧ (st' ν).Ok) →
    ∃ a w' D', s.run P w = .ok a w' ∧ Dom.Ext key D D' ∧ (∀ ν, Ag D' ν → r ν = a) ∧ Fam C B D' w' st' ∧ Sub (fun k i => C k i ∨ B ≤ k) w w' := by
  induction s with
  | pure a =>
    intro j w D st r st' hB hf hi h
    have e : ∀ ν, Ag D ν → a = r ν ∧ st ν = st' ν := fun ν hν => by
      have := (h ν hν).1
      simpa only [sem, Option.some.injEq, Prod.mk.injEq] using this
    exact ⟨a, w, D, rfl, Dom.Ext.refl _ _, fun ν hν => (e ν hν).1.symm, hi.congr fun ν hν => (e ν hν).2.symm, Sub.refl _ _⟩
  | load m a k ih =>
    intro j w D st r st' hB hf hi h
    have key1 : ∀ ν, Ag D ν → ∃ s1 v, sem S P ν key (k v) j s1 = some (r ν, st' ν) ∧ w.cell? a = some v ∧ s1.cells = (st ν).cells ∧ s1.shapes = (st ν).shapes := fun ν hν => by
      obtain ⟨h1, h2⟩ := h ν hν
      simp only [sem] at h1
      split at h1
      · rename_i x g κ s1 hl
        split at h1
        · rename_i s2 hg
          have hk := sem_mono _ _ _ _ _ h1 h2
          obtain ⟨_, _, e1, e2, _, _⟩ := elem_ok hl
          obtain ⟨_, hc, e3, e4⟩ := guess_ok hg ⟨fun p hp => hk.eqs p (List.mem_cons_of_mem _ hp), hk.conds⟩
          obtain ⟨_, h3, _⟩ := elem_cell (hi.inv ν hν) hl (hk.eqs _ (List.mem_cons_self ..))
          refine ⟨_, _, h1, h3 _ ?_, e3.trans e1, e4.trans e2⟩
          rw [asK_eq hc]
          rw [List.getD_eq_getElem?_getD] at hc ⊢
          cases hx : x.xs[a.off]? with
          | none => rw [hx] at hc; simp only [Option.getD_none, isK_noV] at hc; cases hc
          | some v => rfl
        · cases h1
      · split at h1
        · rename_i r0 κ s1 hl
          split at h1
          · rename_i s2 hg
            split at h1
            · rename_i s3 hg3
              have hk := sem_mono _ _ _ _ _ h1 h2
              obtain ⟨q0, q1, q2, _, _⟩ := roE_ok hl
              obtain ⟨p1, hc3, p3, p4⟩ := guess_ok hg3 ⟨fun p hp => hk.eqs p (List.mem_cons_of_mem _ hp), hk.conds⟩
              obtain ⟨_, hc, e3, e4⟩ := guess_ok hg p1
              have ha := hk.eqs _ (List.mem_cons_self ..)
              simp only [addr, Value.pointer.injEq, Option.some.injEq] at ha
              obtain ⟨_, _, h5⟩ := (hi.inv ν hν).ro r0 q0
              refine ⟨_, _, h1, ?_, p3.trans (e3.trans q1), p4.trans (e4.trans q2)⟩
              rw [asK_eq hc]
              rw [List.getD_eq_getElem?_getD] at hc ⊢
              cases hx : r0.xs[Nat.sub a.off r0.a.off]? with
              | none => rw [hx] at hc; simp only [Option.getD_none, isK_noV] at hc; cases hc
              | some v =>
                have h6 := (h5 _ v hx).1
                have hle := Nat.le_of_ble_eq_true hc3
                have h7 : r0.a.off + Nat.sub a.off r0.a.off = a.off := by
                  have : Nat.sub a.off r0.a.off = a.off - r0.a.off := rfl
                  omega
                rw [h7, ← ha] at h6
                exact h6
            · cases h1
          · cases h1
        split at h1
        · rename_i i c s1 hl
          split at h1
          · rename_i v hv
            have h3 := look_ok hl (sem_mono _ _ _ _ _ h1 h2)
            have hm := List.mem_of_getElem? h3.2.2.1
            refine ⟨s1, v, h1, ?_, h3.2.2.2.1, h3.2.2.2.2⟩
            rw [h3.2.1]
            exact (hi.inv ν hν).cell c hm v hv
          · cases h1
        · cases h1
    obtain ⟨_, v0, _, hv0, _⟩ := key1 _ (Ag.some D)
    have key2 : ∀ ν, Ag D ν → ∃ s1, sem S P ν key (k v0) j s1 = some (r ν, st' ν) ∧ s1.cells = (st ν).cells ∧ s1.shapes = (st ν).shapes := fun ν hν => by
      obtain ⟨s1, v, h3, h4, h5⟩ := key1 ν hν
      rw [hv0] at h4
      cases h4
      exact ⟨s1, h3, h5⟩
    obtain ⟨f, hfn⟩ := pick (st (fun _ => 0)) key2
    obtain ⟨a', w', D', e1, e2⟩ := ih v0 j w D f r st' hB hf (hi.of_cells fun ν hν => (hfn ν hν).2) (fun ν hν => ⟨(hfn ν hν).1, (h ν hν).2⟩)
    exact ⟨a', w', D', by simp only [Sem.run, hv0]; exact e1, e2⟩
  | store m a v k ih =>
    intro j w D st r st' hB hf hi h
    have key1 : ∀ ν, Ag D ν → oneC v = true ∧ ∃ u s1, w.cell? a = some u ∧ w.frozen? a = false ∧ sem S P ν key k j s1 = some (r ν, st' ν) ∧ Inv C B (w.setCell a v) s1 ∧ (C a.block a.off ∨ B ≤ a.block) ∧
        ((∃ i c, a = ⟨c.b, c.o, none⟩ ∧ (st ν).cells[i]? = some c ∧ s1.cells = setVal v (st ν).cells i ∧ s1.shapes = (st ν).shapes) ∨
          ∃ i x, x.v.ownBlock = some a.block ∧ (st ν).shapes.vecs[i]? = some x ∧ s1.cells = (st ν).cells ∧ s1.shapes = { (st ν).shapes with vecs := setVec { x with xs := x.xs.set a.off v } (st ν).shapes.vecs i }) := fun ν hν => by
      obtain ⟨h1, h2⟩ := h ν hν
      simp only [sem] at h1
      split at h1
      · rename_i hone
        refine ⟨hone, ?_⟩
        split at h1
        · rename_i i x g κ s1 hl
          split at h1
          rotate_left
          · cases h1
          rename_i s2 hg
          have hk := sem_mono _ _ _ _ _ h1 h2
          obtain ⟨q1, ⟨ad, m', c', qv, rfl⟩, e1, e2, _, _⟩ := elem_ok hl
          obtain ⟨_, hc, e3, e4⟩ := guess_ok hg ⟨fun p hp => hk.eqs p (List.mem_cons_of_mem _ hp), hk.conds⟩
          simp only [Nat.blt_eq] at hc
          obtain ⟨⟨ad', _, _, qv', ha⟩, h3, h4⟩ := elem_cell (hi.inv ν hν) hl (hk.eqs _ (List.mem_cons_self ..))
          rw [qv] at qv'
          simp only [Value.slice.injEq, Option.some.injEq] at qv'
          obtain ⟨rfl, _, _⟩ := qv'
          have hb : x.v.ownBlock = some a.block := by rw [qv, ha]; rfl
          refine ⟨_, _, h3 _ (List.getElem?_eq_getElem hc), h4, h1, ?_, ((hi.inv ν hν).vsep x (List.mem_of_getElem? q1) a.block hb).2.2 a.off, .inr ⟨i, x, hb, q1, e3.trans e1, ?_⟩⟩
          · have := (hi.inv ν hν).setV (o := a.off) (u := v) q1 qv
            rw [← ha] at this
            exact this.of_cells (e3.trans e1) (by simp only [e4, e2])
          · simp only [e4, e2]
        · split at h1
          · rename_i i c s1 hl
            split at h1
            · rename_i u hu
              have hk := (sem_mono _ _ _ _ _ h1 h2)
              have h3 := look_ok hl ⟨hk.eqs, hk.conds⟩
              have hm := List.mem_of_getElem? h3.2.2.1
              obtain ⟨_, ha, hci, hcs, hss⟩ := h3
              refine ⟨u, _, ?_, ?_, h1, ?_, ?_, .inl ⟨i, c, ha, hci, by simp only [hcs], hss⟩⟩
              · rw [ha]; exact (hi.inv ν hν).cell c hm u hu
              · rw [ha]; exact (hi.inv ν hν).free c hm
              · have := (hi.inv ν hν).set (v := v) hci hu
                rw [ha]
                exact this.of_cells (by simp only [hcs]) hss
              · rw [ha]; exact (hi.inv ν hν).own c hm
            · cases h1
          · cases h1
      · cases h1
    obtain ⟨hone, u0, _, hu0, hz0, _, _, hown, _⟩ := key1 _ (Ag.some D)
    obtain ⟨f, hfn⟩ := pick (st (fun _ => 0)) (Q := fun ν s1 => sem S P ν key k j s1 = some (r ν, st' ν) ∧ Inv C B (w.setCell a v) s1 ∧
        ((∃ i c, a = ⟨c.b, c.o, none⟩ ∧ (st ν).cells[i]? = some c ∧ s1.cells = setVal v (st ν).cells i ∧ s1.shapes = (st ν).shapes) ∨
          ∃ i x, x.v.ownBlock = some a.block ∧ (st ν).shapes.vecs[i]? = some x ∧ s1.cells = (st ν).cells ∧ s1.shapes = { (st ν).shapes with vecs := setVec { x with xs := x.xs.set a.off v } (st ν).shapes.vecs i })) (fun ν hν => by
      obtain ⟨_, u, s1, _, _, h3, h4, _, h6⟩ := key1 ν hν
      exact ⟨s1, h3, h4, h6⟩)
    have hfam : Fam C B D (w.setCell a v) f := ⟨fun ν hν => (hfn ν hν).2.1, fun ν ν' hν hν' => by
      obtain ⟨u1, u2⟩ := hi.uni ν ν' hν hν'
      have hI := hi.inv ν hν
      rcases (hfn ν hν).2.2 with ⟨i, c, g1, g2, g3, g4⟩ | ⟨i, x, g1, g2, g3, g4⟩ <;> rcases (hfn ν' hν').2.2 with ⟨i', c', g1', g2', g3', g4'⟩ | ⟨i', x', g1', g2', g3', g4'⟩
      · rw [← u1] at g2' g3'
        rw [← u2] at g4'
        have hii : i = i' := by
          rw [g1'] at g1
          simp only [Addr.mk.injEq, and_true] at g1
          exact idx_one hI.dist g2 g2' g1.1.symm g1.2.symm
        rw [g3, g3', g4, g4', hii]
        exact ⟨rfl, rfl⟩
      · exfalso
        rw [← u2] at g2'
        exact (hI.vsep x' (List.mem_of_getElem? g2') _ g1').1 c (List.mem_of_getElem? g2) (by rw [g1])
      · exfalso
        rw [← u1] at g2'
        exact (hI.vsep x (List.mem_of_getElem? g2) _ g1).1 c' (List.mem_of_getElem? g2') (by rw [g1'])
      · rw [← u1] at g3'
        rw [← u2] at g2' g4'
        have hii : i = i' := by
          by_cases e : i = i'
          · exact e
          · exact absurd g1' (pair_ne hI.vdist g2 g2' e _ g1)
        subst hii
        rw [g2] at g2'
        cases g2'
        rw [g3, g3', g4, g4']
        exact ⟨rfl, rfl⟩⟩
    obtain ⟨a', w', D', e1, e2, e3, e4, e5⟩ := ih j (w.setCell a v) D f r st' (by simpa [World.setCell] using hB) hf hfam (fun ν hν => ⟨(hfn ν hν).1, (h ν hν).2⟩)
    refine ⟨a', w', D', ?_, e2, e3, e4, ?_⟩
    · cases v <;> first | (simp [oneC] at hone; done) | (simp only [Sem.run, hu0, hz0]; exact e1)
    · obtain ⟨b, o, sp⟩ := a
      have hsp : sp = none := by
        unfold World.cell? at hu0
        split at hu0
        · split at hu0
          · cases hu0
          · rename_i hh; simpa using hh
        · cases hu0
      subst hsp
      exact Sub.trans (B := w.heap.size) (Sub.setCell (v := v) hown) (e5.mono (fun k i hc => .inl hc)) (Nat.le_refl _)
  | new o k ih =>
    intro j w D st r st' hB hf hi h
    have key0 : ∃ c e, o = .cells c e (0, 0) := by
      obtain ⟨h1, _⟩ := h _ (Ag.some D)
      simp only [sem] at h1
      split at h1
      · rename_i c e lo hi
        split at h1
        · rename_i hz
          simp only [Bool.and_eq_true, Nat.beq_eq] at hz
          obtain ⟨rfl, rfl⟩ := hz
          exact ⟨c, e, rfl⟩
        · cases h1
      · cases h1
    obtain ⟨c, e, rfl⟩ := key0
    have hz0 : (Nat.beq 0 0 && Nat.beq 0 0) = true := rfl
    have hD : D (j :: key) = none := hf j (Nat.le_refl _)
    have hx : Dom.Ext key D (D.put (j :: key) w.heap.size) := ⟨fun x n hx => by
      unfold Dom.put
      split
      · rename_i hh; rw [hh, hD] at hx; cases hx
      · exact hx, fun x hx => by
      unfold Dom.put
      split
      · rename_i hh; exact absurd (by rw [hh]; exact List.suffix_cons ..) hx
      · rfl⟩
    obtain ⟨a', w', D', e1, e2, e3, e4, e5⟩ := ih w.heap.size (j + 1) { w with heap := w.heap.push (.cells c e (0, 0)) } (D.put (j :: key) w.heap.size)
      (fun ν => { st ν with cells := putNew (newCells w.heap.size (j :: key) c.toList 0) (j :: key) (st ν).cells, shapes := { (st ν).shapes with l := putShape (w.heap.size, e, c.size, j :: key) (st ν).shapes.l } }) r st'
      (by simp only [Array.size_push]; omega)
      (fun i hi => by
        unfold Dom.put
        rw [if_neg (by intro hh; simp at hh; omega)]
        exact hf i (by omega))
      ⟨fun ν hν => (hi.inv ν (Ag.of_put hν hD).1).new c e _ hB, fun ν ν' hν hν' => by
        obtain ⟨u1, u2⟩ := hi.uni ν ν' (Ag.of_put hν hD).1 (Ag.of_put hν' hD).1
        simp only [u1, u2, and_self]⟩
      (fun ν hν => by
        obtain ⟨g1, g2⟩ := Ag.of_put hν hD
        obtain ⟨h1, h2⟩ := h ν g1
        simp only [sem, hz0, g2] at h1
        exact ⟨h1, h2⟩)
    exact ⟨a', w', D', e1, hx.trans e2, e3, e4, Sub.trans (B := w.heap.size) ((Sub.alloc _ w _ (fun _ _ _ hh => by cases hh; rfl))) (e5.mono (fun k i hc => .inl hc)) (Nat.le_refl _)⟩
  | shape r0 k ih =>
    intro j w D st r st' hB hf hi h
    have key1 : ∀ ν, Ag D ν → ∃ s s1, w.shape? r0 = some s ∧ sem S P ν key (k (some s)) j s1 = some (r ν, st' ν) ∧ s1.cells = (st ν).cells ∧ s1.shapes = (st ν).shapes := fun ν hν => by
      obtain ⟨h1, h2⟩ := h ν hν
      simp only [sem] at h1
      split at h1
      · cases h1
      · split at h1
        · cases h1
        · rename_i i tr htr s hs
          have hk := (sem_mono _ _ _ _ _ h1 h2)
          have h3 := hk.eqs _ (List.mem_cons_self ..)
          simp only [addr, Value.pointer.injEq, Option.some.injEq, Addr.mk.injEq, and_true] at h3
          refine ⟨(s.2.1, s.2.2.1), _, ?_, h1, rfl, rfl⟩
          rw [h3]
          exact (hi.inv ν hν).shp s (List.mem_of_getElem? (nth_eq _ _ ▸ hs))
    obtain ⟨s0, _, hs0, _, _⟩ := key1 _ (Ag.some D)
    obtain ⟨f, hfn⟩ := pick (st (fun _ => 0)) (Q := fun ν s1 => sem S P ν key (k (some s0)) j s1 = some (r ν, st' ν) ∧ s1.cells = (st ν).cells ∧ s1.shapes = (st ν).shapes) (fun ν hν => by
      obtain ⟨s, s1, h2, h3, h4⟩ := key1 ν hν
      rw [hs0] at h2
      cases h2
      exact ⟨s1, h3, h4⟩)
    obtain ⟨a', w', D', e1, e2⟩ := ih (some s0) j w D f r st' hB hf (hi.of_cells fun ν hν => (hfn ν hν).2) (fun ν hν => ⟨(hfn ν hν).1, (h ν hν).2⟩)
    exact ⟨a', w', D', by simp only [Sem.run, hs0]; exact e1, e2⟩
  | frozen a k ih =>
    intro j w D st r st' hB hf hi h
    have key1 : ∀ ν, Ag D ν → ∃ s1, w.frozen? a = false ∧ sem S P ν key (k false) j s1 = some (r ν, st' ν) ∧ s1.cells = (st ν).cells ∧ s1.shapes = (st ν).shapes := fun ν hν => by
      obtain ⟨h1, h2⟩ := h ν hν
      simp only [sem] at h1
      split at h1
      · rename_i x g κ s1 hl
        have hk := sem_mono _ _ _ _ _ h1 h2
        obtain ⟨_, _, e1, e2, _, _⟩ := elem_ok hl
        exact ⟨_, (elem_cell (hi.inv ν hν) hl (hk.eqs _ (List.mem_cons_self ..))).2.2, h1, e1, e2⟩
      · split at h1
        · rename_i i c s1 hl
          have h3 := look_ok hl (sem_mono _ _ _ _ _ h1 h2)
          have hm := List.mem_of_getElem? h3.2.2.1
          refine ⟨s1, ?_, h1, h3.2.2.2.1, h3.2.2.2.2⟩
          rw [h3.2.1]
          exact (hi.inv ν hν).free c hm
        · cases h1
    obtain ⟨_, hz0, _⟩ := key1 _ (Ag.some D)
    obtain ⟨f, hfn⟩ := pick (st (fun _ => 0)) (Q := fun ν s1 => sem S P ν key (k false) j s1 = some (r ν, st' ν) ∧ s1.cells = (st ν).cells ∧ s1.shapes = (st ν).shapes) (fun ν hν => by
      obtain ⟨s1, _, h3⟩ := key1 ν hν
      exact ⟨s1, h3⟩)
    obtain ⟨a', w', D', e1, e2⟩ := ih false j w D f r st' hB hf (hi.of_cells fun ν hν => (hfn ν hν).2) (fun ν hν => ⟨(hfn ν hν).1, (h ν hν).2⟩)
    exact ⟨a', w', D', by simp only [Sem.run, hz0]; exact e1, e2⟩
  | program k ih =>
    intro j w D st r st' hB hf hi h
    exact ih P j w D st r st' hB hf hi (fun ν hν => by have := h ν hν; simp only [sem] at this; exact this)
  | mark m k ih =>
    intro j w D st r st' hB hf hi h
    exact ih j w D st r st' hB hf hi (fun ν hν => by have := h ν hν; simp only [sem] at this; exact this)
  | _ =>
    intro j w D st r st' hB hf hi h
    have := (h _ (Ag.some D)).1
    simp [sem] at this
end

end Go.Proofs.YtmihblocomnfjaaDoor.Sy
