/- TokensLimit: the walk whole. -/
import Derived.Test.YthglajoihlaldaaDoorLimitB
import Derived.Test.YthglajoihlaldaaDoorLimPure
namespace Go.Proofs.YthglajoihlaldaaDoor.limit
open Go Sy Close
set_option maxRecDepth 100000
open tok (TOp bktL off_bkt far_bkt own_bkt)
open tokl
theorem body : Tryd.f4.body = some (codeOf Tryd.f4) := by kernel_rfl
theorem ntmps : 4 ≤ Tryd.f4.ntmps := by decide +kernel
def kRow (x : Tk.TU) : List Value := [.int .u8 x.kind, .int .i64 x.at_, .int .i64 x.n]
def gRow (d : Tk.Gv) : List Value := [.int .i64 d.a, .int .i64 d.n]
abbrev kVec (sk : Option Addr) (n ck : Nat) (us : List Tk.TU) : Vec := ⟨34, 3, .slice sk n ck, n, us.flatMap kRow⟩
abbrev dVec (sd : Option Addr) (dn dc : Nat) (D : List Tk.Gv) : Vec := ⟨52, 2, .slice sd dn dc, dn, D.flatMap gRow⟩
theorem owns_stay {w w' : World} {C : Nat → Nat → Prop} {e s n : Nat} {v : Value} {xs : List Value} (h : w.ownsRow 0 e s v n xs) (hs : Sub C w w') (hC : ∀ g, v.ownBlock = some g → ∀ i, ¬ C g i) : w'.ownsRow 0 e s v n xs :=
  h.far fun g hg => hs.far (heap_lt_of_own h hg) (hC g hg)
theorem step_ok {e u t : Int} {x : Tk.TU} (hx : x.ok = false) : ((Tk.step e u t x).u.ok = false → (Tk.step e u t x).t = t) ∧ ((Tk.step e u t x).u.ok = true → x.put = true ∧ t = x.saw ∧ (Tk.step e u t x).t = Tk.next e t x.at_ x.n) := by
  unfold Tk.step
  split
  · rename_i hp
    split
    · rename_i ht; exact ⟨fun hh => by simp at hh, fun _ => ⟨hp, ht, rfl⟩⟩
    · exact ⟨fun _ => rfl, fun hh => by simp [hx] at hh⟩
  · split
    · exact ⟨fun _ => rfl, fun hh => by simp [hx] at hh⟩
    · split
      · exact ⟨fun _ => rfl, fun hh => by simp [hx] at hh⟩
      · exact ⟨fun _ => rfl, fun hh => by simp [hx] at hh⟩
/-- What stands at the second loop's head. -/
structure LInv (W : World) (b c ws : Nat) (us : List Tk.TU) (ps : List Nat) (sp : Option Addr) (n : Nat) (e u t : Int) (sk sd : Option Addr) (dn dc : Nat) (D : List Tk.Gv) (w : World) : Prop where
  pend : Pend W b c ws us ps sp n e u t w
  ak : Arr w 3 id sk (us.map kRow)
  fk : ∀ g, At sk g → tokl.Free W b c ws ps g ∧ ¬ At sp g
  od : w.ownsRow 0 52 2 (.slice sd dn dc) dn (D.flatMap gRow)
  fd : ∀ g, At sd g → tokl.Free W b c ws ps g ∧ ¬ At sp g ∧ ¬ At sk g
  len : dn = D.length
  lim : Tk.Lim e u D t
theorem LInv.same {W w w' : World} {b c ws : Nat} {us : List Tk.TU} {ps : List Nat} {sp : Option Addr} {n : Nat} {e u t : Int} {sk sd : Option Addr} {dn dc : Nat} {D : List Tk.Gv} (h : LInv W b c ws us ps sp n e u t sk sd dn dc D w) (hU : UsesAt W) {l : List (Nat × Nat × Value)} {left : Sy.Left} (hl : Sy.Looks w l) (hp : ({ loose := l } : Mem).Post w left w') (hk : Kept l left.loose []) :
    LInv W b c ws us ps sp n e u t sk sd dn dc D w' :=
  ⟨h.pend.stay hU (post_sub hl hp hk) (fun g i ⟨x, hx, _⟩ => by cases hx), h.ak.stay (post_sub hl hp hk) (fun g _ i ⟨x, hx, _⟩ => by cases hx), h.fk, owns_stay h.od (post_sub hl hp hk) (fun g _ i ⟨x, hx, _⟩ => by cases hx), h.fd, h.len, h.lim⟩
/-- An operation is stepped: it is not done. -/
theorem LInv.stepped {W w w' : World} {b c ws : Nat} {us : List Tk.TU} {ps : List Nat} {sp : Option Addr} {n : Nat} {e u t t' : Int} {sk sd sd' : Option Addr} {dn dc dn' dc' : Nat} {D D' : List Tk.Gv} (h : LInv W b c ws us ps sp n e u t sk sd dn dc D w) {l st : List (Nat × Nat × Value)} {left : Sy.Left} (hl : Sy.Looks w l)
    (hp : ({ loose := l, vecs := [dVec sd dn dc D] } : Mem).Post w left w') (hk : Kept l left.loose st) {k p : Nat} {x x' : Tk.TU} (hx : us[k]? = some x) (hpk : ps[k]? = some p) (hst : ∀ y ∈ st, y.1 = p ∨ y.1 = ws) (hrow : Sy.Looks w' (blkL p (pRow b x') 0 (bktL b c ws e u t' usesC))) (hin : Tk.inT t' = true) (hg : Tk.Good x' ∧ Tk.Room e u x')
    (hkr : kRow x' = kRow x) (hv : left.vecs = [dVec sd' dn' dc' D']) (hlen : dn' = D'.length) (hlim : Tk.Lim e u D' t') : LInv W b c ws (us.set k x') ps sp n e u t' sk sd' dn' dc' D' w' := by
  have hsub := post_sub_v hl hp hk
  have hpm := List.mem_of_getElem? hpk
  have hps := h.pend.lay.objs.new p hpm
  have hC : ∀ g i, ((∃ y ∈ st, y.1 = g ∧ y.2.1 = i) ∨ ∃ y ∈ [dVec sd dn dc D], y.v.ownBlock = some g) → g = p ∨ g = ws ∨ (tokl.Free W b c ws ps g ∧ ¬ At sp g) := fun g i hh => by
    rcases hh with ⟨y, hy, e1, _⟩ | ⟨y, hy, e1⟩
    · rcases hst y hy with h1 | h1
      · exact .inl (e1 ▸ h1)
      · exact .inr (.inl (e1 ▸ h1))
    · simp only [List.mem_singleton] at hy
      subst hy
      have := h.fd g (own_at e1)
      exact .inr (.inr ⟨this.1, this.2.1⟩)
  have hP := h.pend.stepped hpk hsub hC hrow hin hg
  have hrows : (us.set k x').map kRow = us.map kRow := by
    rw [List.map_set, hkr]
    apply List.ext_getElem?
    intro i
    by_cases hik : k = i
    · subst hik
      have hlt : k < us.length := (List.getElem?_eq_some_iff.1 hx).1
      rw [List.getElem?_set_self (by simpa using hlt), List.getElem?_map, hx]
      rfl
    · rw [List.getElem?_set_ne hik]
  obtain ⟨gp, hsp, hcp⟩ := h.pend.ap k p hpk
  obtain ⟨gk, hsk, hck⟩ := h.ak k (kRow x) (by rw [List.getElem?_map, hx]; rfl)
  have lgp : gp < w.heap.size := lt_of_cell? (hcp 0 _ rfl).1
  have lgk : gk < w.heap.size := lt_of_cell? (hck 0 _ rfl).1
  have lb := bkt_lt h.pend.own.looks
  refine ⟨hP, ?_, h.fk, ?_, fun g ⟨a, e1, e2⟩ => ?_, hlen, hlim⟩
  · rw [hrows]
    refine h.ak.stay hsub (fun g hg i hh => ?_)
    have hf := h.fk g hg
    rcases hh with ⟨y, hy, e1, _⟩ | ⟨y, hy, e1⟩
    · rcases hst y hy with h1 | h1
      · exact hf.1.ps (by rw [← e1, h1]; exact hpm)
      · exact hf.1.ws (by rw [← e1, h1])
    · simp only [List.mem_singleton] at hy
      subst hy
      exact (h.fd g (own_at e1)).2.2 hg
  · exact hp.vecs _ (by rw [hv]; exact List.mem_cons_self ..)
  · subst e1
    rcases hp.vold _ (by rw [hv]; exact List.mem_cons_self ..) a.block rfl with ⟨y, hy, e3⟩ | h3
    · simp only [List.mem_singleton] at hy
      subst hy
      rw [← e2]
      exact h.fd _ (own_at e3)
    · have := h.pend.own.size
      rw [e2] at h3
      refine ⟨⟨by omega, fun hm => by have := (h.pend.lay.objs.new g hm).2; omega, by omega, by omega, by omega⟩, fun ⟨a1, q1, q2⟩ => ?_, fun ⟨a1, q1, q2⟩ => ?_⟩
      · rw [hsp] at q1; cases q1; simp only at q2; omega
      · rw [hsk] at q1; cases q1; simp only at q2; omega
end Go.Proofs.YthglajoihlaldaaDoor.limit
