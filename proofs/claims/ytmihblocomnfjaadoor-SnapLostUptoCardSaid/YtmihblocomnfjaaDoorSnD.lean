/- Registers: New, right as contracts; Step, whole. -/
import Derived.Test.YtmihblocomnfjaaDoorSnB
set_option linter.unusedSimpArgs false
set_option linter.unusedVariables false
namespace Go.Proofs.YtmihblocomnfjaaDoor
open Go Sy Close
set_option maxRecDepth 100000
/-- A block of the call's own, taken as a slice. -/
theorem Sy.Res.toVec {W w : World} {O : Nat → Prop} {b : Nat} {t : TypeId} {vs : List Value} {F : List (Nat × TypeId × List Value)} {L : List (Nat × Nat × Value)} {V : List Vec} {n s : Nat} (h : Res W O ((b, t, vs) :: F) L V w) (hO : ¬ O b) (hn : vs.length = n * s) (hm : n ≤ maxLen) :
    Res W O F L (⟨t, s, .slice (some ⟨b, 0, none⟩) n n, n, vs⟩ :: V) w := by
  obtain ⟨⟨h1, h2, h3, h4, h5, h6, h7, h8, h9, _⟩, i1, i2, i3, i4⟩ := h
  have hb := h1 _ (List.mem_cons_self ..)
  have hnew : W.heap.size ≤ b := (i1 _ (List.mem_cons_self ..)).resolve_left hO
  simp only [List.map_cons, List.nodup_cons] at h2
  have hown : w.ownsRow 0 t s (.slice (some ⟨b, 0, none⟩) n n) n vs := by
    refine ⟨hn, .inr ?_⟩
    obtain ⟨hs, hc⟩ := hb
    simp only at hs hc
    cases hh : w.heap[b]? with
    | none => simp [World.shape?, hh] at hs
    | some o =>
      cases o with
      | cells c t' f =>
        have hf := i4.fresh b hnew c t' f hh
        simp only [World.shape?, hh, Option.some.injEq, Prod.mk.injEq] at hs
        obtain ⟨rfl, hsz⟩ := hs
        subst hf
        refine ⟨b, n, c, rfl, Nat.zero_le _, hh, Nat.le_refl _, hm, by rw [hsz, hn], ?_⟩
        have el : c.toList.length = n * s := by rw [Array.length_toList, hsz, hn]
        rw [List.take_of_length_le (Nat.le_of_eq el)]
        refine List.ext_getElem? fun j => ?_
        by_cases hj : j < vs.length
        · have h0 := (hc j _ (List.getElem?_eq_getElem hj)).1
          simp only [World.cell?, hh, Option.isSome_none, Bool.false_eq_true, if_false] at h0
          rw [List.getElem?_eq_getElem hj]
          simpa using h0
        · rw [List.getElem?_eq_none (by omega), List.getElem?_eq_none (by omega)]
      | _ => simp [World.shape?, hh] at hs
  refine ⟨⟨fun x hx => h1 x (List.mem_cons_of_mem _ hx), h2.2, h3, h4, fun x hx hh => h5 x hx (List.mem_cons_of_mem _ hh), h6, fun x hx => ?_, fun x hx g hg => ?_, List.pairwise_cons.2 ⟨fun y hy g hg hg' => ?_, h9⟩, by simp⟩, fun x hx => i1 x (List.mem_cons_of_mem _ hx), i2, fun x hx g hg => ?_, i4⟩
  · rcases List.mem_cons.1 hx with rfl | hx
    · exact hown
    · exact h7 x hx
  · rcases List.mem_cons.1 hx with rfl | hx
    · simp only [Value.ownBlock, Option.some.injEq] at hg
      subst hg
      exact ⟨h2.1, fun y hy e => h5 y hy (by rw [e]; exact List.mem_cons_self ..), fun s hs => by cases hs⟩
    · obtain ⟨a1, a2, a3⟩ := h8 x hx g hg
      exact ⟨fun hh => a1 (List.mem_cons_of_mem _ hh), a2, a3⟩
  · simp only [Value.ownBlock, Option.some.injEq] at hg
    subst hg
    exact (h8 y hy _ hg').1 (List.mem_cons_self ..)
  · rcases List.mem_cons.1 hx with rfl | hx
    · simp only [Value.ownBlock, Option.some.injEq] at hg
      subst hg
      exact .inr hnew
    · exact i3 x hx g hg
namespace Sn
/-- The word that a put puts. -/
def wd (saw v : Int) : Int := IntKind.u64.wrap ((BitVec.ofInt (IntKind.bits .u64) (IntKind.u64.wrap (IntKind.u64.wrap (IntKind.u32.wrap (num saw + 1)) * 2 ^ min (Int.toNat 32) (IntKind.bits .u64))) ||| BitVec.ofInt (IntKind.bits .u64) (IntKind.u64.wrap v)).toNat : Int)
theorem wd_def (saw v : Int) : IntKind.u64.wrap ((BitVec.ofInt (IntKind.bits .u64) (IntKind.u64.wrap (IntKind.u64.wrap (IntKind.u32.wrap (IntKind.u32.wrap (Int.fdiv saw (2 ^ min (Int.toNat 32) (IntKind.bits .u64))) + 1)) * 2 ^ min (Int.toNat 32) (IntKind.bits .u64))) ||| BitVec.ofInt (IntKind.bits .u64) (IntKind.u64.wrap v)).toNat : Int) = wd saw v := rfl
def right (k r v tr n : Int) : Bool := if k = 1 then decide (r ≥ 0) && decide (r < n) && decide (tr = 0) else if k = 2 then decide (r ≥ 0) && decide (r < n) && decide (v = 0) && decide (tr = 0) else if k = 3 then decide (r = 0) && decide (v = 0) && decide (tr ≥ 1) && decide (tr ≤ 1024) else false
/-- An operation under way, as numbers. -/
structure SD where
  k : Int
  r : Int
  v : Int
  tr : Int
  ld : Bool
  saw : Int
  was : List Int
  now : List Int
  over : Bool
  ans : List Int
  clean : Bool
  coll : Int
/-- And where it lies. -/
structure SP where
  d : SD
  p : Nat
  wa : Option Addr
  wc : Nat
  na : Option Addr
  nc : Nat
  ra : Option Addr
  rc : Nat
def did (kd cell saw put : Int) (ok : Bool) : Value := .agg #[.int .u8 kd, .int .i64 cell, .int .u64 saw, .int .u64 put, .bool ok]
/-- What the next action does. -/
def nxt (n : Nat) (xs : List Int) (d : SD) : List Int × SD × Value :=
  if d.k = 1 then
    if d.ld = true then
      if seeAt xs d.r = d.saw then (putAt xs d.r (wd d.saw d.v), { d with ld := false, over := true, ans := [wd d.saw d.v] }, did 5 d.r (seeAt xs d.r) (wd d.saw d.v) true)
      else (xs, { d with ld := false }, did 5 d.r (seeAt xs d.r) (seeAt xs d.r) false)
    else (xs, { d with ld := true, saw := seeAt xs d.r }, did 1 d.r (seeAt xs d.r) (seeAt xs d.r) true)
  else if d.k = 2 then (xs, { d with over := true, ans := [seeAt xs d.r] }, did 1 d.r (seeAt xs d.r) (seeAt xs d.r) true)
  else
    let x := seeAt xs d.now.length
    let now := d.now ++ [x]
    if now.length < n then (xs, { d with now := now }, did 1 d.now.length x x true)
    else (xs, { d with was := now, now := [], ans := now, clean := decide (d.was = now), coll := d.coll + 1, over := decide (d.was = now) || decide (d.coll + 1 ≥ d.tr) }, did 1 d.now.length x x true)
/-- An operation that has not ended. -/
structure Good (n : Nat) (u : SP) : Prop where
  right : right u.d.k u.d.r u.d.v u.d.tr n = true
  over : u.d.over = false
  clean : u.d.clean = false
  nlen : u.d.now.length < n
  plain : u.d.k ≠ 3 → u.wa = none ∧ u.wc = 0 ∧ u.d.was = [] ∧ u.na = none ∧ u.nc = 0 ∧ u.d.now = [] ∧ u.ra = none ∧ u.rc = 0 ∧ u.d.ans = [] ∧ u.d.coll = 0
  get : u.d.k ≠ 1 → u.d.ld = false
  scan : u.d.k = 3 → 0 ≤ u.d.coll ∧ u.d.coll < u.d.tr ∧ ((u.d.was = [] ∧ u.wa = none ∧ u.wc = 0 ∧ u.d.coll = 0) ∨ u.d.was.length = n)
end Sn
open Sn (regR SD SP nxt did wd num vl)
def snewP (args : Array Value) : CP := match args.toList with
  | [.int .i64 n] => .test (decide (1 ≤ n) && decide (n ≤ 64)) fun g => match g with
    | true => .done 3 fun l => match l with
      | [c, cb, ws] => { res := .tuple #[ptrV c, errV 0], news := [(78, [ptrV cb]), (99, [.slice (some ⟨ws, 0, none⟩) n.toNat n.toNat])], vecs := [wordsV ws n.toNat n.toNat n.toNat ((List.replicate n.toNat (0 : Int)).map u64V)] }
      | _ => { res := nilP }
    | false => .done 0 fun _ => { res := .tuple #[nilP, errV 2] }
  | _ => .fail
theorem made_u64 (n : Nat) : (madeCells (Value.cells (.agg #[.int .u64 0])) (n * 1)).toList = (List.replicate n (0 : Int)).map u64V := by
  have e : Value.cells (.agg #[.int .u64 0]) = #[.int .u64 0] := by kernel_rfl
  rw [e, toList_madeCells_one, Nat.mul_one, List.map_replicate]
  rfl
theorem snew_ok : (⟨10, snewP⟩ : Contract).Ok Tryd.prog := con_start fun args w => by
  unfold snewP
  split
  · rename_i n hargs
    obtain rfl := args_of hargs
    refine good_test ?_
    by_cases h1 : 1 ≤ n
    · by_cases h2 : n ≤ 64
      · have e : (decide (1 ≤ n) && decide (n ≤ 64)) = true := by simp [h1, h2]
        rw [e]
        exact good_done fun hl => good_walk host snew1_n (c := snewC n) (snew1_1 n) (snew1_2 n) (by simp [snew1_o, maxLen]; omega) rfl hl fun ν => ⟨(snew1_o n ν).2.news.map Prod.fst ++ (snew1_o n ν).2.vecs.filterMap (fun x => x.v.ownBlock), rfl, rfl, rfl, .same _, rfl, by simp only [snew1_o]; rw [← made_u64]; rfl⟩
      · have e : (decide (1 ≤ n) && decide (n ≤ 64)) = false := by simp [h2]
        rw [e]
        exact good_done fun hl => good_walk host snew3_n (c := snewC n) (snew3_1 n) (snew3_2 n) (by simp [snew3_o, h1, h2] <;> omega) rfl hl fun ν => ⟨[], rfl, rfl, rfl, .same _, rfl, rfl⟩
    · have e : (decide (1 ≤ n) && decide (n ≤ 64)) = false := by simp [h1]
      rw [e]
      exact good_done fun hl => good_walk host snew2_n (c := snewC n) (snew2_1 n) (snew2_2 n) (by simp [snew2_o, h1] <;> omega) rfl hl fun ν => ⟨[], rfl, rfl, rfl, .same _, rfl, rfl⟩
  · exact good_fail
namespace snst
def uV (a : Option Addr) (c : Nat) (xs : List Int) : Vec := u64sV a xs.length c (xs.map u64V)
def rV (a : Option Addr) (c : Nat) (xs : List Int) : Vec := regsV a xs.length c (xs.flatMap regR)
def blk (c : Nat) (u : SP) : Bks := [(u.p, 82, pdV c u.d.k u.d.r u.d.v u.d.tr u.d.ld u.d.saw u.wa u.d.was.length u.wc u.na u.d.now.length u.nc u.d.over u.d.clean u.d.coll u.ra u.d.ans.length u.rc)]
def vcs (u : SP) : List Vec := [uV u.na u.nc u.d.now, uV u.wa u.wc u.d.was, rV u.ra u.rc u.d.ans]
theorem stepBody : Tryd.f14.body = some (codeOf Tryd.f14) := by kernel_rfl
theorem stepTmps : 1 ≤ Tryd.f14.ntmps := by decide +kernel
theorem step {W w0 : World} {O : Nat → Prop} {c cb ws n : Nat} {xs : List Int} {u : SP} {F : Bks} {V : List Vec} (hg : Sn.Good n u) (hx : xs.length = n) (hn1 : n ≤ 64) (hlu : Sy.Looks W usesC) (hro : ∀ x ∈ usesC, ¬ O x.1) (hO : ∀ b, O b → b = ws)
    (h : Res W O ((snB c cb ws n ++ blk c u) ++ F) [] ([wordsV ws n n n (xs.map u64V)] ++ (vcs u ++ V)) w0) :
    Calls Tryd.prog 14 #[ptrV u.p] w0 fun e w' => ∃ u' : SP, u'.p = u.p ∧ u'.d = (nxt n xs u.d).2.1 ∧ (u'.d.over = false → Sn.Good n u') ∧ e = .returned (.tuple #[(nxt n xs u.d).2.2, .bool (nxt n xs u.d).2.1.over]) ∧
      Res W O ((snB c cb ws n ++ blk c u') ++ F) [] ([wordsV ws n n n ((nxt n xs u.d).1.map u64V)] ++ (vcs u' ++ V)) w' := by
  refine calls_after (X := fun _ _ _ => False) Tryd.func14 stepBody stepTmps fun a1 ha => ?_
  obtain ⟨⟨k, r, v, tr, ld, saw, was, now, over, ans, clean, coll⟩, p, wa, wc, na, nc, ra, rc⟩ := u
  obtain ⟨hr, ho, hcl, hnl, hpl, hgt, hsc⟩ := hg
  simp only at hr ho hcl hnl hpl hgt hsc
  subst ho hcl
  have hn0 : 0 < n := by omega
  have mapN : ∀ (ns : List Int) (x : Int), (ns.map u64V ++ [Value.int .u64 x]).map valU = ns ++ [x] := fun ns x => by rw [List.map_append, map_valU]; rfl
  have allN : ∀ (ns : List Int) (x : Int), (ns.map u64V ++ [Value.int .u64 x]).all isU64 = true := fun ns x => by rw [List.all_append, all_u64]; rfl
  have snoc : ∀ (ns : List Int) (x : Int), ns.map u64V ++ [Value.int .u64 x] = (ns ++ [x]).map u64V := fun ns x => by rw [List.map_append]; rfl
  by_cases hk1 : k = 1
  · subst hk1
    obtain ⟨rfl, rfl, rfl, rfl, rfl, rfl, rfl, rfl, rfl, rfl⟩ := hpl (by decide)
    simp [Sn.right] at hr
    obtain ⟨⟨hr0, hr1⟩, rfl⟩ := hr
    obtain ⟨x, hxe⟩ : ∃ x, x = seeAt xs r := ⟨_, rfl⟩
    cases ld with
    | false =>
      have hx0 : nxt n xs ⟨1, r, v, 0, false, saw, [], [], false, [], false, 0⟩ = (xs, ⟨1, r, v, 0, true, x, [], [], false, [], false, 0⟩, did 1 r x x true) := by rw [hxe]; rfl
      rw [hx0]
      refine Res.segV (V := [wordsV ws n n n (xs.map u64V)]) hostA _ (spP c cb ws n xs p r v false saw) spP1_n (spP1_1 c cb ws n xs p r v false saw) (spP1_2 c cb ws n xs p r v false saw) (h) (hlu) hro no_ros rfl ?_ (fun _ _ => rfl) (fun _ _ => rfl) ha fun ν j a2 w2 hfr2 hr2 => ?_
      · simp only [spP1_o, all_u64]
        simp [hr0, hr1, Cq.okq]
      · refine ⟨⟨⟨1, r, v, 0, true, x, [], [], false, [], false, 0⟩, p, none, 0, none, 0, none, 0⟩, rfl, rfl, fun _ => ⟨by simp [Sn.right, hr0, hr1], rfl, rfl, hn0, fun _ => ⟨rfl, rfl, rfl, rfl, rfl, rfl, rfl, rfl, rfl, rfl⟩, fun h => absurd rfl h, fun h => by simp at h⟩, ?_, ?_⟩
        · simp only [spP1_o, map_valU, ← hxe]; rfl
        · simp only [spP1_o, map_valU, ← hxe] at hr2; exact hr2
    | true =>
      by_cases he : x = saw
      · have hx0 : nxt n xs ⟨1, r, v, 0, true, saw, [], [], false, [], false, 0⟩ = (putAt xs r (wd saw v), ⟨1, r, v, 0, false, saw, [], [], true, [wd saw v], false, 0⟩, did 5 r x (wd saw v) true) := by
          simp [nxt, ← hxe, he]
        rw [hx0]
        refine Res.segV (V := [wordsV ws n n n (xs.map u64V)]) hostA _ (spP c cb ws n xs p r v true saw) spP2_n (spP2_1 c cb ws n xs p r v true saw) (spP2_2 c cb ws n xs p r v true saw) (h) (hlu) hro no_ros rfl ?_ (fun _ _ => rfl) (fun _ _ => rfl) ha fun ν j a2 w2 hfr2 hr2 => ?_
        · simp only [spP2_o, all_u64, map_valU, ← hxe]
          simp [hr0, hr1, Cq.okq, Cq.ok, he]
        · obtain ⟨o, ho⟩ : ∃ o, o = spP2_o c cb ws n xs p r v true saw ν j := ⟨_, rfl⟩
          rw [← ho] at hfr2 hr2
          rw [← ho]
          obtain ⟨b, q1, q2, q3, q4⟩ : ∃ b, o.1 = .ret (.tuple #[did 5 r x (wd saw v) true, .bool true]) ∧ o.2.2.news = [(b, 63, [.int .u32 (num (wd saw v)), .int .u32 (vl (wd saw v))])] ∧ o.2.2.blocks = snB c cb ws n ++ [(p, 82, pdV c 1 r v 0 false saw none 0 0 none 0 0 true false 0 (some ⟨b, 0, none⟩) 1 1)] ∧ o.2.2.vecs = [wordsV ws n n n ((putAt xs r (wd saw v)).map u64V)] := by
            rw [ho]
            simp only [spP2_o, map_valU, ← hxe, Sn.wd_def, rowNow]
            refine ⟨_, ?_, rfl, rfl, ?_⟩
            · simp [Cq.saw, Cq.put, Cq.ok, he]; rfl
            · simp [Cq.put, he, wordsV]
          rw [q2, q3, q4] at hr2
          rw [q1]
          have hb : ¬ O b := fun hob => by
            rw [hO b hob] at hr2
            exact (hr2.met.vsep _ (List.mem_cons_self ..) ws rfl).1 (List.mem_cons_self ..)
          have hr3 := Sy.Res.toVec (n := 1) (s := 2) hr2 hb rfl (by simp [maxLen])
          refine ⟨⟨⟨1, r, v, 0, false, saw, [], [], true, [wd saw v], false, 0⟩, p, none, 0, none, 0, some ⟨b, 0, none⟩, 1⟩, rfl, rfl, (fun h => by cases h), rfl, ?_⟩
          refine (hr3.perm (.refl _) (List.perm_middle (a := regsV (some ⟨b, 0, none⟩) 1 1 (regR (wd saw v))) (l₁ := [wordsV ws n n n ((putAt xs r (wd saw v)).map u64V), uV none 0 [], uV none 0 [], rV none 0 []]) (l₂ := V)).symm).less (.refl _) (.refl _) ?_
          exact .cons_cons _ (.cons_cons _ (.cons_cons _ (.cons _ (.refl _))))
      · have hx0 : nxt n xs ⟨1, r, v, 0, true, saw, [], [], false, [], false, 0⟩ = (xs, ⟨1, r, v, 0, false, saw, [], [], false, [], false, 0⟩, did 5 r x x false) := by
          simp [nxt, ← hxe, he]
        rw [hx0]
        refine Res.segV (V := [wordsV ws n n n (xs.map u64V)]) hostA _ (spP c cb ws n xs p r v true saw) spP3_n (spP3_1 c cb ws n xs p r v true saw) (spP3_2 c cb ws n xs p r v true saw) (h) (hlu) hro no_ros rfl ?_ (fun _ _ => rfl) (fun _ _ => rfl) ha fun ν j a2 w2 hfr2 hr2 => ?_
        · simp only [spP3_o, all_u64, map_valU, ← hxe]
          simp [hr0, hr1, Cq.okq, Cq.ok, he]
        · refine ⟨⟨⟨1, r, v, 0, false, saw, [], [], false, [], false, 0⟩, p, none, 0, none, 0, none, 0⟩, rfl, rfl, fun _ => ⟨by simp [Sn.right, hr0, hr1], rfl, rfl, hn0, fun _ => ⟨rfl, rfl, rfl, rfl, rfl, rfl, rfl, rfl, rfl, rfl⟩, fun h => absurd rfl h, fun h => by simp at h⟩, ?_, ?_⟩
          · simp only [spP3_o, map_valU, ← hxe]
            simp [Cq.saw, Cq.put, Cq.ok, he]; rfl
          · have hsee : r.toNat < xs.length := by omega
            rw [hxe] at he
            have e4 : (spP3_o c cb ws n xs p r v true saw ν j).2.2.vecs = [wordsV ws n n n (xs.map u64V)] := by
              simp only [spP3_o, map_valU]
              simp [Cq.put, he, rowNow, wordsV, put_same hsee]
            rw [e4] at hr2
            exact hr2
  by_cases hk2 : k = 2
  · subst hk2
    obtain ⟨rfl, rfl, rfl, rfl, rfl, rfl, rfl, rfl, rfl, rfl⟩ := hpl (by decide)
    simp [Sn.right] at hr
    obtain ⟨⟨⟨hr0, hr1⟩, rfl⟩, rfl⟩ := hr
    obtain rfl := hgt (by decide)
    obtain ⟨x, hxe⟩ : ∃ x, x = seeAt xs r := ⟨_, rfl⟩
    have hx0 : nxt n xs ⟨2, r, 0, 0, false, saw, [], [], false, [], false, 0⟩ = (xs, ⟨2, r, 0, 0, false, saw, [], [], true, [x], false, 0⟩, did 1 r x x true) := by
      simp [nxt, ← hxe]
    rw [hx0]
    refine Res.segV (V := [wordsV ws n n n (xs.map u64V)]) hostA _ (spG c cb ws n xs p r saw) spG1_n (spG1_1 c cb ws n xs p r saw) (spG1_2 c cb ws n xs p r saw) (h) (hlu) hro no_ros rfl ?_ (fun _ _ => rfl) (fun _ _ => rfl) ha fun ν j a2 w2 hfr2 hr2 => ?_
    · simp only [spG1_o, all_u64]
      simp [hr0, hr1, Cq.okq]
    · obtain ⟨o, ho⟩ : ∃ o, o = spG1_o c cb ws n xs p r saw ν j := ⟨_, rfl⟩
      rw [← ho] at hfr2 hr2
      rw [← ho]
      obtain ⟨b, q1, q2, q3, q4⟩ : ∃ b, o.1 = .ret (.tuple #[did 1 r x x true, .bool true]) ∧ o.2.2.news = [(b, 63, [.int .u32 (num x), .int .u32 (vl x)])] ∧ o.2.2.blocks = snB c cb ws n ++ [(p, 82, pdV c 2 r 0 0 false saw none 0 0 none 0 0 true false 0 (some ⟨b, 0, none⟩) 1 1)] ∧ o.2.2.vecs = [wordsV ws n n n (xs.map u64V)] := by
        rw [ho]
        simp only [spG1_o, map_valU, ← hxe]
        exact ⟨_, rfl, rfl, rfl, rfl⟩
      rw [q2, q3, q4] at hr2
      rw [q1]
      have hb : ¬ O b := fun hob => by
        rw [hO b hob] at hr2
        exact (hr2.met.vsep _ (List.mem_cons_self ..) ws rfl).1 (List.mem_cons_self ..)
      have hr3 := Sy.Res.toVec (n := 1) (s := 2) hr2 hb rfl (by simp [maxLen])
      refine ⟨⟨⟨2, r, 0, 0, false, saw, [], [], true, [x], false, 0⟩, p, none, 0, none, 0, some ⟨b, 0, none⟩, 1⟩, rfl, rfl, (fun h => by cases h), rfl, ?_⟩
      refine (hr3.perm (.refl _) (List.perm_middle (a := regsV (some ⟨b, 0, none⟩) 1 1 (regR x)) (l₁ := [wordsV ws n n n (xs.map u64V), uV none 0 [], uV none 0 [], rV none 0 []]) (l₂ := V)).symm).less (.refl _) (.refl _) ?_
      exact .cons_cons _ (.cons_cons _ (.cons_cons _ (.cons _ (.refl _))))
  by_cases hk3 : k = 3
  rotate_left
  · simp [Sn.right, hk1, hk2, hk3] at hr
  subst hk3
  obtain rfl := hgt (by decide)
  simp [Sn.right] at hr
  obtain ⟨⟨⟨rfl, rfl⟩, ht1⟩, ht2⟩ := hr
  obtain ⟨hc0, hc1, hwas⟩ := hsc rfl
  obtain ⟨x, hxe⟩ : ∃ x, x = seeAt xs now.length := ⟨_, rfl⟩
  have hlen : (now ++ [x]).length = now.length + 1 := by simp
  have hcw : IntKind.i64.wrap (coll + 1) = coll + 1 := wrap_i64 (by omega) (by omega)
  by_cases hmid : now.length + 1 < n
  · have hx0 : nxt n xs ⟨3, 0, 0, tr, false, saw, was, now, false, ans, false, coll⟩ = (xs, ⟨3, 0, 0, tr, false, saw, was, now ++ [x], false, ans, false, coll⟩, did 1 now.length x x true) := by
      simp [nxt, ← hxe, hmid]
    rw [hx0]
    refine Res.segV (V := [wordsV ws n n n (xs.map u64V), uV na nc now]) hostA _ (spS c cb ws n xs p tr saw wa was.length wc na now.length nc now coll ra ans.length rc) spS1_n (spS1_1 c cb ws n xs p tr saw wa was.length wc na now.length nc now coll ra ans.length rc) (spS1_2 c cb ws n xs p tr saw wa was.length wc na now.length nc now coll ra ans.length rc) (h) (hlu) hro no_ros rfl ?_ (fun _ _ => rfl) (fun _ _ => rfl) ha fun ν j a2 w2 hfr2 hr2 => ?_
    · simp only [spS1_o, all_u64]
      simp [Cq.okq, u64sV, addV_eq, maxLen]
      omega
    · obtain ⟨o, ho⟩ : ∃ o, o = spS1_o c cb ws n xs p tr saw wa was.length wc na now.length nc now coll ra ans.length rc ν j := ⟨_, rfl⟩
      rw [← ho] at hfr2 hr2
      rw [← ho]
      obtain ⟨g, cap, q1, q2, q3, q4⟩ : ∃ g cap, o.1 = .ret (.tuple #[did 1 now.length x x true, .bool false]) ∧ o.2.2.news = [] ∧ o.2.2.blocks = snB c cb ws n ++ [(p, 82, pdV c 3 0 0 tr false saw wa was.length wc (some ⟨g, 0, none⟩) (now ++ [x]).length cap false false coll ra ans.length rc)] ∧ o.2.2.vecs = [wordsV ws n n n (xs.map u64V), uV (some ⟨g, 0, none⟩) cap (now ++ [x])] := by
        rw [ho, hlen]
        simp only [spS1_o, map_valU, ← hxe, addV_eq, snoc, uV, hlen]
        exact ⟨_, _, rfl, trivial, rfl, rfl⟩
      rw [q2, q3, q4] at hr2
      rw [q1]
      exact ⟨⟨⟨3, 0, 0, tr, false, saw, was, now ++ [x], false, ans, false, coll⟩, p, wa, wc, some ⟨g, 0, none⟩, cap, ra, rc⟩, rfl, rfl, fun _ => ⟨by simp [Sn.right, ht1, ht2], rfl, rfl, by simpa using hmid, fun h => absurd rfl h, fun _ => rfl, fun _ => ⟨hc0, hc1, hwas⟩⟩, rfl, hr2⟩
  have hn' : now.length + 1 = n := by omega
  have hlenn : (now ++ [x]).length = n := by rw [hlen]; exact hn'
  rcases hwas with ⟨rfl, rfl, rfl, rfl⟩ | hwl
  · have hne : ([] : List Int) ≠ now ++ [x] := by simp
    have hx0 : nxt n xs ⟨3, 0, 0, tr, false, saw, [], now, false, ans, false, 0⟩ = (xs, ⟨3, 0, 0, tr, false, saw, now ++ [x], [], decide ((0 : Int) + 1 ≥ tr), now ++ [x], false, 0 + 1⟩, did 1 now.length x x true) := by
      simp [nxt, ← hxe, hmid]
    rw [hx0]
    refine Res.segV (V := [wordsV ws n n n (xs.map u64V), uV na nc now]) hostA _ (spF c cb ws n xs p tr saw na now.length nc now 0 ra ans.length rc) spF1_n (spF1_1 c cb ws n xs p tr saw na now.length nc now 0 ra ans.length rc) (spF1_2 c cb ws n xs p tr saw na now.length nc now 0 ra ans.length rc) (h) (hlu) hro no_ros rfl ?_ (fun _ _ => rfl) (fun _ _ => rfl) ha fun ν j a2 w2 hfr2 hr2 => ?_
    · simp only [spF1_o, all_u64, allN]
      simp [Cq.okq, u64sV, addV_eq, maxLen, Nat.blt_eq, Nat.ble_eq]
      omega
    · obtain ⟨o, ho⟩ : ∃ o, o = spF1_o c cb ws n xs p tr saw na now.length nc now 0 ra ans.length rc ν j := ⟨_, rfl⟩
      rw [← ho] at hfr2 hr2
      rw [← ho]
      obtain ⟨g, cap, g2, cap2, q1, q2, q3, q4⟩ : ∃ g cap g2 cap2, o.1 = .ret (.tuple #[did 1 now.length x x true, .bool (decide ((0 : Int) + 1 ≥ tr))]) ∧ o.2.2.news = [] ∧ o.2.2.blocks = snB c cb ws n ++ [(p, 82, pdV c 3 0 0 tr false saw (some ⟨g, 0, none⟩) (now ++ [x]).length cap none 0 0 (decide ((0 : Int) + 1 ≥ tr)) false (0 + 1) (some ⟨g2, 0, none⟩) (now ++ [x]).length cap2)] ∧ o.2.2.vecs = [wordsV ws n n n (xs.map u64V), uV (some ⟨g, 0, none⟩) cap (now ++ [x]), rV (some ⟨g2, 0, none⟩) cap2 (now ++ [x])] := by
        rw [ho, hlen]
        simp only [spF1_o, map_valU, ← hxe, addV_eq, snoc, uV, rV, hlen, hcw, mapN]
        exact ⟨_, _, _, _, rfl, trivial, rfl, rfl⟩
      rw [q2, q3, q4] at hr2
      rw [q1]
      refine ⟨⟨⟨3, 0, 0, tr, false, saw, now ++ [x], [], decide ((0 : Int) + 1 ≥ tr), now ++ [x], false, 0 + 1⟩, p, some ⟨g, 0, none⟩, cap, none, 0, some ⟨g2, 0, none⟩, cap2⟩, rfl, rfl, fun hov => ⟨by simp [Sn.right, ht1, ht2], hov, rfl, hn0, fun h => absurd rfl h, fun _ => rfl, fun _ => ⟨by simp, ?_, .inr hlenn⟩⟩, rfl, ?_⟩
      · simp only [decide_eq_false_iff_not] at hov
        simp only
        omega
      · refine (hr2.perm (.refl _) (?_ : List.Perm _ ([wordsV ws n n n (xs.map u64V), uV none 0 [], uV (some ⟨g, 0, none⟩) cap (now ++ [x]), rV (some ⟨g2, 0, none⟩) cap2 (now ++ [x]), rV ra rc ans] ++ V))).less (.refl _) (.refl _) (.cons_cons _ (.cons_cons _ (.cons_cons _ (.cons_cons _ (.cons _ (.refl _))))))
        exact .cons _ (List.perm_middle (a := uV none 0 []) (l₁ := [uV (some ⟨g, 0, none⟩) cap (now ++ [x]), rV (some ⟨g2, 0, none⟩) cap2 (now ++ [x])]) (l₂ := rV ra rc ans :: V))
  · obtain ⟨wb, rfl⟩ := (res_len h (e := 39) (s := 1) (n := was.length) (c := wc) (so := wa) (xs := was.map u64V) (List.mem_cons_of_mem _ (List.mem_cons_of_mem _ (List.mem_cons_self ..)))).2.2 (by omega)
    by_cases hcl : was = now ++ [x]
    · have hx0 : nxt n xs ⟨3, 0, 0, tr, false, saw, was, now, false, ans, false, coll⟩ = (xs, ⟨3, 0, 0, tr, false, saw, now ++ [x], [], true, now ++ [x], decide (was = now ++ [x]), coll + 1⟩, did 1 now.length x x true) := by
        simp [nxt, ← hxe, hmid, hcl]
      rw [hx0]
      refine Res.segV (V := [wordsV ws n n n (xs.map u64V), uV na nc now, uV (some ⟨wb, 0, none⟩) wc was]) hostA _ (spL c cb ws n xs p tr saw wb was.length wc was na now.length nc now coll ra ans.length rc) spL1_n (spL1_1 c cb ws n xs p tr saw wb was.length wc was na now.length nc now coll ra ans.length rc) (spL1_2 c cb ws n xs p tr saw wb was.length wc was na now.length nc now coll ra ans.length rc) (h) (hlu) hro no_ros rfl ?_ (fun _ _ => rfl) (fun _ _ => rfl) ha fun ν j a2 w2 hfr2 hr2 => ?_
      · simp only [spL1_o, all_u64, allN, mapN, map_valU, ← hxe]
        simp [Cq.okq, u64sV, addV_eq, maxLen, Nat.blt_eq, Nat.ble_eq, hcl]
        omega
      · obtain ⟨o, ho⟩ : ∃ o, o = spL1_o c cb ws n xs p tr saw wb was.length wc was na now.length nc now coll ra ans.length rc ν j := ⟨_, rfl⟩
        rw [← ho] at hfr2 hr2
        rw [← ho]
        obtain ⟨g, cap, g2, cap2, q1, q2, q3, q4⟩ : ∃ g cap g2 cap2, o.1 = .ret (.tuple #[did 1 now.length x x true, .bool (true)]) ∧ o.2.2.news = [] ∧ o.2.2.blocks = snB c cb ws n ++ [(p, 82, pdV c 3 0 0 tr false saw (some ⟨g, 0, none⟩) (now ++ [x]).length cap none 0 0 (true) (decide (was = now ++ [x])) (coll + 1) (some ⟨g2, 0, none⟩) (now ++ [x]).length cap2)] ∧ o.2.2.vecs = [wordsV ws n n n (xs.map u64V), uV (some ⟨g, 0, none⟩) cap (now ++ [x]), uV (some ⟨wb, 0, none⟩) wc was, rV (some ⟨g2, 0, none⟩) cap2 (now ++ [x])] := by
          rw [ho, hlen]
          simp only [spL1_o, map_valU, ← hxe, addV_eq, snoc, uV, rV, hlen, hcw, mapN]
          exact ⟨_, _, _, _, rfl, trivial, rfl, rfl⟩
        rw [q2, q3, q4] at hr2
        rw [q1]
        refine ⟨⟨⟨3, 0, 0, tr, false, saw, now ++ [x], [], true, now ++ [x], decide (was = now ++ [x]), coll + 1⟩, p, some ⟨g, 0, none⟩, cap, none, 0, some ⟨g2, 0, none⟩, cap2⟩, rfl, rfl, fun hov => ?_, rfl, ?_⟩
        · first | (cases hov; done) | (simp only [decide_eq_false_iff_not] at hov; exact ⟨by simp [Sn.right, ht1, ht2], by simp only [decide_eq_false_iff_not]; exact hov, by simp only [decide_eq_false_iff_not]; exact hcl, hn0, fun h => absurd rfl h, fun _ => rfl, fun _ => ⟨by simp only; omega, by simp only; omega, .inr hlenn⟩⟩)
        · refine ((res_nil hr2 39 1).perm (.refl _) (?_ : List.Perm _ ([wordsV ws n n n (xs.map u64V), uV none 0 [], uV (some ⟨g, 0, none⟩) cap (now ++ [x]), rV (some ⟨g2, 0, none⟩) cap2 (now ++ [x]), uV (some ⟨wb, 0, none⟩) wc was, rV ra rc ans] ++ V))).less (.refl _) (.refl _) (.cons_cons _ (.cons_cons _ (.cons_cons _ (.cons_cons _ (.cons _ (.cons _ (.refl _)))))))
          exact (List.Perm.swap ..).trans (.cons _ (.cons _ (.cons _ (.swap ..))))
    by_cases hcl : ¬ was = now ++ [x]
    · have hx0 : nxt n xs ⟨3, 0, 0, tr, false, saw, was, now, false, ans, false, coll⟩ = (xs, ⟨3, 0, 0, tr, false, saw, now ++ [x], [], decide (coll + 1 ≥ tr), now ++ [x], decide (was = now ++ [x]), coll + 1⟩, did 1 now.length x x true) := by
        simp [nxt, ← hxe, hmid, hcl]
      rw [hx0]
      refine Res.segV (V := [wordsV ws n n n (xs.map u64V), uV na nc now, uV (some ⟨wb, 0, none⟩) wc was]) hostA _ (spL c cb ws n xs p tr saw wb was.length wc was na now.length nc now coll ra ans.length rc) spL2_n (spL2_1 c cb ws n xs p tr saw wb was.length wc was na now.length nc now coll ra ans.length rc) (spL2_2 c cb ws n xs p tr saw wb was.length wc was na now.length nc now coll ra ans.length rc) (h) (hlu) hro no_ros rfl ?_ (fun _ _ => rfl) (fun _ _ => rfl) ha fun ν j a2 w2 hfr2 hr2 => ?_
      · simp only [spL2_o, all_u64, allN, mapN, map_valU, ← hxe]
        simp [Cq.okq, u64sV, addV_eq, maxLen, Nat.blt_eq, Nat.ble_eq, hcl]
        omega
      · obtain ⟨o, ho⟩ : ∃ o, o = spL2_o c cb ws n xs p tr saw wb was.length wc was na now.length nc now coll ra ans.length rc ν j := ⟨_, rfl⟩
        rw [← ho] at hfr2 hr2
        rw [← ho]
        obtain ⟨g, cap, g2, cap2, q1, q2, q3, q4⟩ : ∃ g cap g2 cap2, o.1 = .ret (.tuple #[did 1 now.length x x true, .bool (decide (coll + 1 ≥ tr))]) ∧ o.2.2.news = [] ∧ o.2.2.blocks = snB c cb ws n ++ [(p, 82, pdV c 3 0 0 tr false saw (some ⟨g, 0, none⟩) (now ++ [x]).length cap none 0 0 (decide (coll + 1 ≥ tr)) (decide (was = now ++ [x])) (coll + 1) (some ⟨g2, 0, none⟩) (now ++ [x]).length cap2)] ∧ o.2.2.vecs = [wordsV ws n n n (xs.map u64V), uV (some ⟨g, 0, none⟩) cap (now ++ [x]), uV (some ⟨wb, 0, none⟩) wc was, rV (some ⟨g2, 0, none⟩) cap2 (now ++ [x])] := by
          rw [ho, hlen]
          simp only [spL2_o, map_valU, ← hxe, addV_eq, snoc, uV, rV, hlen, hcw, mapN]
          exact ⟨_, _, _, _, rfl, trivial, rfl, rfl⟩
        rw [q2, q3, q4] at hr2
        rw [q1]
        refine ⟨⟨⟨3, 0, 0, tr, false, saw, now ++ [x], [], decide (coll + 1 ≥ tr), now ++ [x], decide (was = now ++ [x]), coll + 1⟩, p, some ⟨g, 0, none⟩, cap, none, 0, some ⟨g2, 0, none⟩, cap2⟩, rfl, rfl, fun hov => ?_, rfl, ?_⟩
        · first | (cases hov; done) | (simp only [decide_eq_false_iff_not] at hov; exact ⟨by simp [Sn.right, ht1, ht2], by simp only [decide_eq_false_iff_not]; exact hov, by simp only [decide_eq_false_iff_not]; exact hcl, hn0, fun h => absurd rfl h, fun _ => rfl, fun _ => ⟨by simp only; omega, by simp only; omega, .inr hlenn⟩⟩)
        · refine ((res_nil hr2 39 1).perm (.refl _) (?_ : List.Perm _ ([wordsV ws n n n (xs.map u64V), uV none 0 [], uV (some ⟨g, 0, none⟩) cap (now ++ [x]), rV (some ⟨g2, 0, none⟩) cap2 (now ++ [x]), uV (some ⟨wb, 0, none⟩) wc was, rV ra rc ans] ++ V))).less (.refl _) (.refl _) (.cons_cons _ (.cons_cons _ (.cons_cons _ (.cons_cons _ (.cons _ (.cons _ (.refl _)))))))
          exact (List.Perm.swap ..).trans (.cons _ (.cons _ (.cons _ (.swap ..))))
    exact (hcl ‹¬ was = now ++ [x]›).elim
end snst
end Go.Proofs.YtmihblocomnfjaaDoor
