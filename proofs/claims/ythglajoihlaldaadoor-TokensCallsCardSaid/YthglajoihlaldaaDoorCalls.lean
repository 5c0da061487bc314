/- TokensCalls: the walk whole. -/
import Derived.Test.YthglajoihlaldaaDoorCallsB
namespace Go.Proofs.YthglajoihlaldaaDoor.calls
open Go Sy Close tok
set_option maxRecDepth 100000
theorem body : Tryd.f6.body = some (codeOf Tryd.f6) := by kernel_rfl
theorem ntmps : 3 ≤ Tryd.f6.ntmps := by decide +kernel
theorem whole_take {e u t a n : Int} (hr : Tk.right 1 a n = true) : Tk.take e u t a n = ⟨(Tk.whole e u t 1 a n).t, (Tk.whole e u t 1 a n).ok, (Tk.whole e u t 1 a n).wait, 0⟩ ∧ (Tk.whole e u t 1 a n).left = 0 := by
  by_cases h : Tk.next e t a n > Tk.stop e u a <;> simp [Tk.take, Tk.whole, hr, h]
theorem calls {W : World} (e u : Int) {sa : Option Addr} {len cap : Nat} {l : List TOp} (hl : l.length = len) (hcap : len ≤ cap) (hmax : cap ≤ maxLen) (hel : ∀ i y, l[i]? = some y → Elem W sa 3 i y.row)
    (hU : ∀ j v, usesList[j]? = some v → W.cell? ⟨0, j, none⟩ = some v ∧ W.frozen? ⟨0, j, none⟩ = false) :
    Calls Tryd.prog 6 #[.int .i64 e, .int .i64 u, .slice sa len cap] W (Done W) := by
  have hlu : Sy.Looks W usesC := uses_looks hU
  refine calls_after (X := fun _ _ _ => False) Tryd.func6 body ntmps fun a1 ha => ?_
  cases hf : Tk.fits e u with
  | false =>
    refine Seg.wp host6 _ (callsA e u sa len cap) callsA1_n (callsA1_1 e u sa len cap) (callsA1_2 e u sa len cap) ?_ ha hlu.met fun ν j a' w' _ hp => ?_
    · simp [callsA1_o, hf]
    · exact ⟨rfl, (Old.start W).next (post_sub hlu hp (.same _)) (fun k i ⟨x, hx, _⟩ => by cases hx)⟩
  | true =>
    refine Seg.wp host6 _ (callsA e u sa len cap) callsA2_n (callsA2_1 e u sa len cap) (callsA2_2 e u sa len cap) ?_ ha hlu.met fun ν j a' w' hfr hp => ?_
    · simp [callsA2_o, hf]
    · have hL := post_looks hlu hp (.same _)
      have hO : Old W w' := (Old.start W).next (post_sub hlu hp (.same _)) (fun k i ⟨x, hx, _⟩ => by cases hx)
      have hn := hp.news
      have hnn := hp.nnew
      simp only [callsA2_o] at hL hn hnn hfr
      generalize ν [0, 1, 0 + 1 + 1, 0 + 1] = b at *
      generalize ν [0 + 1, 1, 0 + 1 + 1, 0 + 1] = c at *
      generalize ν [0 + 1 + 1, 1, 0 + 1 + 1, 0 + 1] = ws at *
      simp only [List.map_cons, List.map_nil, List.nodup_cons, List.mem_cons, List.not_mem_nil, or_false, not_or] at hnn
      have hI : BInv W b c ws e u 0 w' := binv_new hU hO hL (hn _ (List.mem_cons_of_mem _ (List.mem_cons_of_mem _ (List.mem_cons_self ..)))) (hn _ (List.mem_cons_of_mem _ (List.mem_cons_self ..))) (hn _ (List.mem_cons_self ..)) (fun e => hnn.2.1 e.symm) (fun e => hnn.1.2 e.symm) (fun e => hnn.1.1 e.symm)
      refine loop_after (i := 7) (by kernel_rfl) (fun m a w => ∃ (i : Nat) (t : Int), m = len - i ∧ i ≤ len ∧ Fr Tryd.f6.ntmps (callsL b i t e u sa len cap) a ∧ BInv W b c ws e u t w) len ⟨0, 0, rfl, Nat.zero_le _, hfr, hI⟩ ?_
      rintro m a1 w1 ⟨i, t, rfl, hi, hfr1, hI1⟩ Y hY _
      have hin := hI1.inT
      have hb0 : (Tk.fits e u && Tk.inT t && Nat.blt 0 1) = true := by rw [hf, hin]; rfl
      by_cases hlt : i < len
      · obtain ⟨y, hy⟩ : ∃ y, l[i]? = some y := ⟨_, List.getElem?_eq_getElem (by omega)⟩
        have he := hel i y hy
        obtain ⟨ab, ao, rfl, _⟩ := hel i y hy
        have hl1 := op_looks hI1 he
        have hw : IntKind.i64.wrap ((i : Int) + 1) = ((i + 1 : Nat) : Int) := by
          rw [wrap_i64 (by omega) (by unfold maxLen at hmax; omega)]; simp
        have ut : IntKind.u64.wrap t = t := by rw [Tk.inT_iff] at hin; exact wrap_u64 (by omega) (by omega)
        obtain ⟨k, a, n⟩ := y
        by_cases hk1 : k = 1
        · subst hk1
          cases hr : Tk.right 1 a n with
          | true =>
            obtain ⟨e1, e2⟩ := whole_take (e := e) (u := u) (t := t) hr
            have hin' := Tk.take_inT (a := a) (n := n) hf hin
            rw [e1] at hin'
            have ut' : IntKind.u64.wrap (Tk.whole e u t 1 a n).t = (Tk.whole e u t 1 a n).t := by have h := hin'; rw [Tk.inT_iff] at h; simp only at h; exact wrap_u64 (by omega) (by omega)
            refine Seg.wp host6 _ (callsR b c ws i t 1 a n e u ab ao len cap) callsR1_n (callsR1_1 b c ws i t 1 a n e u ab ao len cap) (callsR1_2 b c ws i t 1 a n e u ab ao len cap) ?_ hfr1 hl1.met fun ν j a' w2 hfr2 hp2 => ?_
            · simp [callsR1_o, hf, hin, hr, hlt, e1, e2, ut']
            · simp only [callsR1_o, hw, e1] at hfr2 hp2
              exact hY (len - (i + 1)) a' w2 (by omega) ⟨i + 1, _, rfl, hlt, hfr2, hI1.next hl1 hp2 (.keep (.keep (.keep (.set (.same _))))) (.cons _ (.cons _ (.cons _ (.refl _)))) hin'⟩
          | false =>
            have e1 := Tk.take_no (e := e) (u := u) (t := t) hr
            refine Seg.wp host6 _ (callsR b c ws i t 1 a n e u ab ao len cap) callsR2_n (callsR2_1 b c ws i t 1 a n e u ab ao len cap) (callsR2_2 b c ws i t 1 a n e u ab ao len cap) ?_ hfr1 hl1.met fun ν j a' w2 hfr2 hp2 => ?_
            · simp [callsR2_o, hf, hin, hr, hlt, e1]
            · simp only [callsR2_o, hw, e1] at hfr2 hp2
              exact hY (len - (i + 1)) a' w2 (by omega) ⟨i + 1, _, rfl, hlt, hfr2, hI1.next hl1 hp2 (.keep (.keep (.keep (.set (.same _))))) (.cons _ (.cons _ (.cons _ (.refl _)))) hin⟩
        · by_cases hk2 : k = 2
          · subst hk2
            cases hr : Tk.right 2 a 0 with
            | true =>
              have e1 : Tk.peek e u t a = ⟨Tk.leftOf e u t a, 0⟩ := by simp [Tk.peek, hr]
              have e2 : Tk.whole e u t 2 a 0 = ⟨t, false, 0, Tk.leftOf e u t a⟩ := by simp [Tk.whole]
              refine Seg.wp host6 _ (callsR b c ws i t 2 a n e u ab ao len cap) callsR3_n (callsR3_1 b c ws i t 2 a n e u ab ao len cap) (callsR3_2 b c ws i t 2 a n e u ab ao len cap) ?_ hfr1 hl1.met fun ν j a' w2 hfr2 hp2 => ?_
              · simp [callsR3_o, hf, hin, hr, hlt, e1, e2, ut]
              · simp only [callsR3_o, hw, e2] at hfr2 hp2
                exact hY (len - (i + 1)) a' w2 (by omega) ⟨i + 1, _, rfl, hlt, hfr2, hI1.same hl1 hp2 (.same _) (.cons _ (.cons _ (.cons _ (.refl _))))⟩
            | false =>
              have e1 : Tk.peek e u t a = ⟨0, 2⟩ := by simp [Tk.peek, hr]
              refine Seg.wp host6 _ (callsR b c ws i t 2 a n e u ab ao len cap) callsR4_n (callsR4_1 b c ws i t 2 a n e u ab ao len cap) (callsR4_2 b c ws i t 2 a n e u ab ao len cap) ?_ hfr1 hl1.met fun ν j a' w2 hfr2 hp2 => ?_
              · simp [callsR4_o, hf, hin, hr, hlt, e1]
              · simp only [callsR4_o, hw] at hfr2 hp2
                exact hY (len - (i + 1)) a' w2 (by omega) ⟨i + 1, _, rfl, hlt, hfr2, hI1.same hl1 hp2 (.same _) (.cons _ (.cons _ (.cons _ (.refl _))))⟩
          · refine Seg.wp host6 _ (callsR b c ws i t k a n e u ab ao len cap) callsR5_n (callsR5_1 b c ws i t k a n e u ab ao len cap) (callsR5_2 b c ws i t k a n e u ab ao len cap) ?_ hfr1 hl1.met fun ν j a' w2 hfr2 hp2 => ?_
            · simp [callsR5_o, hk1, hk2, hlt]
            · simp only [callsR5_o, hw] at hfr2 hp2
              exact hY (len - (i + 1)) a' w2 (by omega) ⟨i + 1, _, rfl, hlt, hfr2, hI1.same hl1 hp2 (.same _) (.cons _ (.cons _ (.cons _ (.refl _))))⟩
      · refine Seg.wp host6 _ (callsX b c ws i t e u sa len cap) callsX1_n (callsX1_1 b c ws i t e u sa len cap) (callsX1_2 b c ws i t e u sa len cap) ?_ hfr1 hI1.looks.met fun ν j a' w2 hfr2 hp2 => ?_
        · simp [callsX1_o] <;> omega
        · exact ⟨rfl, hI1.old.next (post_sub hI1.looks hp2 (.same _)) (fun k i ⟨x, hx, _⟩ => by cases hx)⟩
end Go.Proofs.YthglajoihlaldaaDoor.calls
