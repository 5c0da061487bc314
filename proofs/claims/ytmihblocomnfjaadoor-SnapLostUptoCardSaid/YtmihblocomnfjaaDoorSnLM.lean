/- SnapLost: the operations' memory, and one action of one of them. -/
import Derived.Test.YtmihblocomnfjaaDoorSnLB
import Derived.Test.YtmihblocomnfjaaDoorSnLP
set_option linter.unusedSimpArgs false
set_option linter.unusedVariables false
namespace Go.Proofs.YtmihblocomnfjaaDoor
open Go Sy Close
set_option maxRecDepth 100000
open Sn (regR SD SP nxt did wd num vl)
open snst (blk vcs swp)
open snu (pV oRow)
theorem Sy.reL_same {g : Nat} {l0 : List (Nat × Nat × Value)} : ∀ {cs : List (Nat × Value)} {xs : List Value}, (∀ c ∈ cs, xs[c.1]? = some c.2) → reL cs xs (opL g cs l0) = xs
  | [], _, _ => rfl
  | c :: r, xs, h => by
    simp only [opL, reL]
    rw [set_same (h c (List.mem_cons_self ..))]
    exact reL_same fun d hd => h d (List.mem_cons_of_mem _ hd)
theorem Sy.reR_same {g : Nat} {l0 : List (Nat × Nat × Value)} : ∀ {cs : List (Nat × Value)}, reR cs (opL g cs l0) = l0
  | [] => rfl
  | c :: r => by simp only [opL, reR]; exact reR_same
/-- Opened elements that were left alone. -/
theorem Sy.re_same {l0 : List (Nat × Nat × Value)} : ∀ {ops : List Sy.Open}, (∀ o ∈ ops, OpenOk o) → reV ops (opsL ops l0) = ops.map Sy.Open.x
  | [], _ => rfl
  | o :: r, h => by
    simp only [opsL, reV, List.map_cons]
    rw [reR_same, reL_same (h o (List.mem_cons_self ..)).at_, re_same fun p hp => h p (List.mem_cons_of_mem _ hp)]
namespace snl
theorem made_regs (n : Nat) : (madeCells (Value.cells (.agg #[.int .u32 0, .int .u32 0])) (n * 2)).toList = (nums (List.replicate n 0)).map u32V := by
  have e : Value.cells (.agg #[.int .u32 0, .int .u32 0]) = #[.int .u32 0, .int .u32 0] := by kernel_rfl
  have e2 : nums (List.replicate n 0) = List.replicate (n * 2) 0 := by
    unfold nums
    induction n with
    | zero => rfl
    | succ n ih => rw [List.replicate_succ, List.flatMap_cons, ih, Nat.succ_mul]; rfl
  rw [e, e2, List.map_replicate]
  refine List.ext_getElem? fun i => ?_
  by_cases hi : i < n * 2
  · have : i % 2 = 0 ∨ i % 2 = 1 := by omega
    rcases this with h | h <;> simp [madeCells, hi, h, u32V]
  · simp [madeCells, hi]
theorem nums_get : ∀ {xs : List Int} {r : Nat}, r < xs.length → (nums xs).getD (r * 2) 0 = num (xs.getD r 0) ∧ (nums xs).getD (r * 2 + 1) 0 = vl (xs.getD r 0)
  | x :: xs, 0, _ => ⟨rfl, rfl⟩
  | x :: xs, r + 1, h => by
    have := nums_get (xs := xs) (r := r) (by simpa using h)
    have e : nums (x :: xs) = num x :: vl x :: nums xs := rfl
    rw [e, show (r + 1) * 2 = r * 2 + 1 + 1 by omega, List.getD_cons_succ, List.getD_cons_succ, List.getD_cons_succ, List.getD_cons_succ, List.getD_cons_succ]
    exact this
  | [], _, h => by simp at h
theorem nums_set : ∀ {xs : List Int} {r : Nat} (z : Int), r < xs.length → nums (xs.set r z) = ((nums xs).set (r * 2) (num z)).set (r * 2 + 1) (vl z)
  | x :: xs, 0, z, _ => rfl
  | x :: xs, r + 1, z, h => by
    have := nums_set (xs := xs) (r := r) z (by simpa using h)
    have e : ∀ (x : Int) xs, nums (x :: xs) = num x :: vl x :: nums xs := fun _ _ => rfl
    rw [List.set_cons_succ, e, e, show (r + 1) * 2 = r * 2 + 1 + 1 by omega, List.set_cons_succ, List.set_cons_succ, List.set_cons_succ, List.set_cons_succ, this]
  | [], _, _, h => by simp at h
theorem set_u32 (xs : List Int) (i : Nat) (z : Int) : (xs.map u32V).set i (.int .u32 z) = (xs.set i z).map u32V := by rw [List.map_set]; rfl
theorem map_set_same {α β : Type} {f : α → β} {us : List α} {j : Nat} {u u' : α} (h : us[j]? = some u) (e : f u' = f u) : (us.set j u').map f = us.map f := by
  rw [List.map_set, e, set_same (by rw [List.getElem?_map, h]; rfl)]
def oR (u : SP) : List Value := oRow u.d
theorem oR_len (u : SP) : (oR u).length = 4 := rfl
theorem flat_set_same {us : List SP} {j : Nat} {u u' : SP} (h : us[j]? = some u) (e : oR u' = oR u) : (us.set j u').flatMap oR = us.flatMap oR := by
  rw [List.flatMap_def, List.flatMap_def, map_set_same h e]
section
variable {α : Type} {w p o r d : α} {t : List α}
theorem q_o : (w :: p :: o :: r :: d :: t).Perm (o :: w :: p :: r :: d :: t) := List.perm_middle (l₁ := [w, p])
theorem q_d : (w :: p :: o :: r :: d :: t).Perm (d :: w :: p :: o :: r :: t) := List.perm_middle (l₁ := [w, p, o, r])
theorem q_dp : (w :: p :: o :: r :: d :: t).Perm (d :: p :: w :: o :: r :: t) := q_d.trans (.cons _ (.swap ..))
theorem q_op : (w :: p :: o :: r :: d :: t).Perm (o :: p :: w :: r :: d :: t) := q_o.trans (.cons _ (.swap ..))
theorem q_wr : (w :: p :: o :: r :: d :: t).Perm (w :: r :: p :: o :: d :: t) := .cons _ (List.perm_middle (l₁ := [p, o]))
theorem q_t {a b z : α} : (w :: p :: o :: r :: d :: a :: b :: z :: t).Perm (r :: z :: o :: p :: w :: d :: a :: b :: t) :=
  (List.perm_middle (l₁ := [w, p, o, r, d, a, b])).trans ((List.perm_middle (l₁ := [z, w, p, o])).trans (.cons _ (.cons _ ((List.perm_middle (l₁ := [w, p])).trans (.cons _ (.swap ..))))))
end
structure Ok (n : Nat) (u : SP) : Prop where
  good : u.d.over = false → Sn.Good n u
  v0 : 0 ≤ u.d.v
  v1 : u.d.v < 4294967296
structure St (W : World) (c cb ws n : Nat) (us : List SP) (sp so : Option Addr) (m cp co wb : Nat) (ra : Option Addr) (rn rc : Nat) (os : List Int) (xs ys : List Int) (w : World) : Prop where
  res : Res W NoOld (snB c cb ws n ++ us.flatMap (blk c)) [] (wordsV ws n n n (xs.map u64V) :: sptrs sp m cp (us.map pV) :: sopsV so m co (us.flatMap oR) :: nregs wb n n ys :: ordV ra rn rc os :: us.flatMap vcs) w
  hx : xs.length = n
  lu : us.length = m
  ok : ∀ u ∈ us, Ok n u
variable {W : World} {c cb ws n : Nat} {us : List SP} {sp so : Option Addr} {m cp co wb : Nat} {ra : Option Addr} {rn rc : Nat} {os xs ys : List Int} {w1 : World}
/-- One action. -/
theorem St.step (h : St W c cb ws n us sp so m cp co wb ra rn rc os xs ys w1) (hn1 : n ≤ 64) (hlu : Sy.Looks W usesC) {q : Nat} {u : SP} (hu : us[q]? = some u) (ho : u.d.over = false) :
    Calls Tryd.prog 14 #[ptrV u.p] w1 fun e w2 => ∃ u' : SP, u'.p = u.p ∧ u'.d = (nxt n xs u.d).2.1 ∧ e = .returned (.tuple #[(nxt n xs u.d).2.2, .bool (nxt n xs u.d).2.1.over]) ∧ (∀ u'' ∈ us.set q u', Ok n u'') ∧
      St W c cb ws n (us.set q u') sp so m cp co wb ra rn rc os (nxt n xs u.d).1 ys w2 := by
  have hok := h.ok u (List.mem_of_getElem? hu)
  have hg := hok.good ho
  have hr : Res W NoOld ((snB c cb ws n ++ blk c u) ++ (us.eraseIdx q).flatMap (blk c)) [] ([wordsV ws n n n (xs.map u64V)] ++ (vcs u ++ ([sptrs sp m cp (us.map pV), sopsV so m co (us.flatMap oR), nregs wb n n ys, ordV ra rn rc os] ++ (us.eraseIdx q).flatMap vcs))) w1 := by
    refine h.res.perm ?_ ?_
    · rw [List.append_assoc]
      exact perm_in (snu.flat_focus hu)
    · exact .cons _ ((perm_in (A := [sptrs sp m cp (us.map pV), sopsV so m co (us.flatMap oR), nregs wb n n ys, ordV ra rn rc os]) (snu.flat_focus hu)).trans swp)
  refine (snst.step hg h.hx hn1 hlu (fun _ _ => id) (fun b h => h.elim) hr).mono ?_
  rintro e w2 ⟨u', hp, hd, hg', rfl, hr2⟩
  obtain ⟨k1, k2, k3, k4⟩ := Sn.nxt_key n xs u.d
  have hoR : oR u' = oR u := by
    unfold oR oRow
    rw [hd, k1, k2, k3, k4]
  have hpV : pV u' = pV u := by unfold pV; rw [hp]
  have hall : ∀ u'' ∈ us.set q u', Ok n u'' := fun u'' hm => by
    rcases List.mem_or_eq_of_mem_set hm with hm | rfl
    · exact h.ok _ hm
    · exact ⟨hg', by rw [hd, k3]; exact hok.v0, by rw [hd, k3]; exact hok.v1⟩
  refine ⟨u', hp, hd, rfl, hall, ⟨?_, ?_, by simp [h.lu], hall⟩⟩
  · rw [map_set_same hu hpV, flat_set_same hu hoR]
    refine hr2.perm ?_ ?_
    · rw [List.append_assoc]
      exact perm_in (snu.flat_set hu)
    · exact .cons _ ((swp (A := vcs u') (B := [sptrs sp m cp (us.map pV), sopsV so m co (us.flatMap oR), nregs wb n n ys, ordV ra rn rc os]) (C := (us.eraseIdx q).flatMap vcs)).trans (perm_in (snu.flat_set hu)))
  · unfold nxt
    split
    · split
      · split
        · simp [putAt, h.hx]
        · exact h.hx
      · exact h.hx
    · split
      · exact h.hx
      · simp only
        split <;> exact h.hx
theorem opD {so : Option Addr} {gr : Nat} (hs : so = some ⟨gr, 0, none⟩) {i : Nat} {z : Int} (hz : os[i]? = some z) : OpenOk ⟨ordV so rn rc os, gr, elC 1 i [(0, .int .i64 z)]⟩ := by
  subst hs
  exact open_row (row := fun z => [i64V z]) ⟨_, _, rfl⟩ (List.map_eq_flatMap ..) (fun _ => rfl) hz (by simp [i64V]) (by simp)
theorem opP {so : Option Addr} {gp : Nat} (hs : so = some ⟨gp, 0, none⟩) {i : Nat} {u : SP} (hu : us[i]? = some u) : OpenOk ⟨sptrs so m cp (us.map pV), gp, elC 1 i [(0, ptrV u.p)]⟩ := by
  subst hs
  exact open_row (row := fun u => [pV u]) ⟨_, _, rfl⟩ (List.map_eq_flatMap ..) (fun _ => rfl) hu (by simp [pV]) (by simp)
theorem opK {so : Option Addr} {go : Nat} (hs : so = some ⟨go, 0, none⟩) {i : Nat} {u : SP} (hu : us[i]? = some u) : OpenOk ⟨sopsV so m co (us.flatMap oR), go, elC 4 i [(0, .int .u8 u.d.k)]⟩ := by
  subst hs
  exact open_row ⟨_, _, rfl⟩ rfl oR_len hu (by simp [oR, oRow]) (by simp)
theorem opK3 {so : Option Addr} {go : Nat} (hs : so = some ⟨go, 0, none⟩) {i : Nat} {u : SP} (hu : us[i]? = some u) : OpenOk ⟨sopsV so m co (us.flatMap oR), go, elC 4 i [(0, .int .u8 u.d.k), (1, .int .i64 u.d.r), (2, .int .u32 u.d.v)]⟩ := by
  subst hs
  exact open_row ⟨_, _, rfl⟩ rfl oR_len hu (by simp [oR, oRow]) (by simp)
end snl
end Go.Proofs.YtmihblocomnfjaaDoor
