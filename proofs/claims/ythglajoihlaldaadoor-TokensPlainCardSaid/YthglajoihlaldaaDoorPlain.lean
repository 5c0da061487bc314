/- TokensPlain: the walk whole. -/
import Derived.Test.YthglajoihlaldaaDoorPlainB
namespace Go.Proofs.YthglajoihlaldaaDoor.plain
open Go Sy Close
set_option maxRecDepth 100000
open tok (TOp)
theorem body : Tryd.f9.body = some (codeOf Tryd.f9) := by kernel_rfl
theorem ntmps : 4 ≤ Tryd.f9.ntmps := by decide +kernel
/-- What stands at the loop's head. -/
structure Inv (W : World) (ob b c ws b2 c2 ws2 : Nat) (k a n e u t : Int) (w : World) : Prop where
  own : Own W (plainM ob b c ws b2 c2 ws2 k a n e u t t) w
  h1 : W.heap.size ≤ ws
  h2 : W.heap.size ≤ ws2
  inT : Tk.inT t = true
theorem far_next {W : World} {ob b c ws b2 c2 ws2 : Nat} {k a n e u t t' t2 : Int} (h : Far W (plainM ob b c ws b2 c2 ws2 k a n e u t t)) (h1 : W.heap.size ≤ ws) (h2 : W.heap.size ≤ ws2) : Far W (plainM ob b c ws b2 c2 ws2 k a n e u t' t2) :=
  far_kept (.keep (.keep (.keep (.set (.keep (.keep (.keep (.keep (.set (.same _))))))))) : Kept (plainM ob b c ws b2 c2 ws2 k a n e u t t) (plainM ob b c ws b2 c2 ws2 k a n e u t' t2) [(ws2, 0, .int .u64 t2), (ws, 0, .int .u64 t')]) (st_cons h2 (st1 h1)) h

theorem calls {W : World} (e u : Int) {sa : Option Addr} {len cap : Nat} {l : List TOp} (k a n : Int) (hl : l.length = len) (hcap : len ≤ cap) (hmax : cap ≤ maxLen) (hel : ∀ i y, l[i]? = some y → Elem W sa 3 i y.row)
    (hU : UsesAt W) : Calls Tryd.prog 9 #[.int .i64 e, .int .i64 u, .slice sa len cap, .agg #[.int .u8 k, .int .i64 a, .int .i64 n]] W (Done W) := by
  have hlu := looksUses hU
  refine calls_after (X := fun _ _ _ => False) Tryd.func9 body ntmps fun a1 ha => ?_
  cases hf : Tk.fits e u with
  | false =>
    refine Seg.wp host6 _ (plainA e u sa len cap k a n) plainA1_n (plainA1_1 e u sa len cap k a n) (plainA1_2 e u sa len cap k a n) ?_ ha hlu.met fun ν j a' w' _ hp => ?_
    · simp [plainA1_o, hf]
    · exact ⟨rfl, ((Own.start hU).step hlu hp (.same _) st_nil (.refl _) far_uses).old⟩
  | true =>
    refine Seg.wp host6 _ (plainA e u sa len cap k a n) plainA2_n (plainA2_1 e u sa len cap k a n) (plainA2_2 e u sa len cap k a n) ?_ ha hlu.met fun ν j a' w' hfr hp => ?_
    · simp [plainA2_o, hf]
    · have h0 : Own W usesC w' := (Own.start hU).step hlu hp (.same _) st_nil (.refl _) far_uses
      have hn := hp.news
      have hnn := hp.nnew
      simp only [plainA2_o] at hn hnn hfr
      generalize ν [0, 0, 0, 0] = ob at *
      generalize ν [0, 1, 0 + 1 + 1, 0 + 1 + 1] = b at *
      generalize ν [0 + 1, 1, 0 + 1 + 1, 0 + 1 + 1] = c at *
      generalize ν [0 + 1 + 1, 1, 0 + 1 + 1, 0 + 1 + 1] = ws at *
      generalize ν [0, 1, 0 + 1 + 1, 0 + 1 + 1 + 1] = b2 at *
      generalize ν [0 + 1, 1, 0 + 1 + 1, 0 + 1 + 1 + 1] = c2 at *
      generalize ν [0 + 1 + 1, 1, 0 + 1 + 1, 0 + 1 + 1 + 1] = ws2 at *
      simp only [List.map_cons, List.map_nil, List.nodup_cons, List.mem_cons, List.not_mem_nil, or_false, not_or] at hnn
      simp only [List.forall_mem_cons] at hn
      obtain ⟨⟨n1, m1⟩, ⟨n2, m2⟩, ⟨n3, m3⟩, ⟨n4, m4⟩, ⟨n5, m5⟩, ⟨n6, m6⟩, ⟨n7, m7⟩, _⟩ := hn
      have hI : Inv W ob b c ws b2 c2 ws2 k a n e u 0 w' := by
        obtain ⟨⟨d1, d2, d3, d4, d5, d6⟩, ⟨d7, d8, d9, d10, d11⟩, ⟨d12, d13, d14, d15⟩, ⟨d16, d17, d18⟩, ⟨d19, d20⟩, d21, _⟩ := hnn
        have g1 := tok.own_bkt h0 ⟨n6, m6⟩ ⟨n5, m5⟩ ⟨n4, m4⟩ (by first | assumption | (apply Ne.symm; assumption)) (by first | assumption | (apply Ne.symm; assumption)) (by first | assumption | (apply Ne.symm; assumption)) (off_uses hU m6) (off_uses hU m5) (off_uses hU m4)
        have g2 := tok.own_bkt g1 ⟨n3, m3⟩ ⟨n2, m2⟩ ⟨n1, m1⟩ (by first | assumption | (apply Ne.symm; assumption)) (by first | assumption | (apply Ne.symm; assumption)) (by first | assumption | (apply Ne.symm; assumption)) (tok.off_bkt (by first | assumption | (apply Ne.symm; assumption)) (by first | assumption | (apply Ne.symm; assumption)) (by first | assumption | (apply Ne.symm; assumption)) (off_uses hU m3)) (tok.off_bkt (by first | assumption | (apply Ne.symm; assumption)) (by first | assumption | (apply Ne.symm; assumption)) (by first | assumption | (apply Ne.symm; assumption)) (off_uses hU m2)) (tok.off_bkt (by first | assumption | (apply Ne.symm; assumption)) (by first | assumption | (apply Ne.symm; assumption)) (by first | assumption | (apply Ne.symm; assumption)) (off_uses hU m1))
        have g7 := g2.blk n7 m7 (tok.off_bkt (by first | assumption | (apply Ne.symm; assumption)) (by first | assumption | (apply Ne.symm; assumption)) (by first | assumption | (apply Ne.symm; assumption)) (tok.off_bkt (by first | assumption | (apply Ne.symm; assumption)) (by first | assumption | (apply Ne.symm; assumption)) (by first | assumption | (apply Ne.symm; assumption)) (off_uses hU m7)))
        exact ⟨g7, m4, m1, rfl⟩
      refine loop_after (i := 8) (by kernel_rfl) (fun m a0 w => ∃ (i : Nat) (t : Int), m = len - i ∧ i ≤ len ∧ Fr Tryd.f9.ntmps (plainL ob b b2 i e u sa len cap) a0 ∧ Inv W ob b c ws b2 c2 ws2 k a n e u t w) len ⟨0, 0, rfl, Nat.zero_le _, hfr, hI⟩ ?_
      rintro m a1 w1 ⟨i, t, rfl, hi, hfr1, hI1⟩ Y hY _
      have hin := hI1.inT
      by_cases hlt : i < len
      · obtain ⟨y, hy⟩ : ∃ y, l[i]? = some y := ⟨_, List.getElem?_eq_getElem (by omega)⟩
        have he := hel i y hy
        obtain ⟨ab, ao, rfl, _⟩ := hel i y hy
        have hl1 := elem_looks hI1.own.old hI1.own.looks hI1.own.far he [(1, .int .i64 y.a), (2, .int .i64 y.n)] (by simp [TOp.row]) (by simp)
        have hw := wrap_next hlt hcap hmax
        refine Seg.wp host6 _ (plainR ob b c ws b2 c2 ws2 i t k a n y.a y.n e u ab ao len cap) plainR1_n (plainR1_1 ob b c ws b2 c2 ws2 i t k a n y.a y.n e u ab ao len cap) (plainR1_2 ob b c ws b2 c2 ws2 i t k a n y.a y.n e u ab ao len cap) ?_ hfr1 hl1.met fun ν j a' w2 hfr2 hp2 => ?_
        · simp [plainR1_o, hf, hin, hlt]
        · simp only [plainR1_o, hw] at hfr2 hp2
          exact hY (len - (i + 1)) a' w2 (by omega) ⟨i + 1, _, rfl, hlt, hfr2, hI1.own.step hl1 hp2 (.keep (.keep (.keep (.keep (.keep (.set (.keep (.keep (.keep (.keep (.set (.same _))))))))))))
            (st_cons hI1.h2 (st1 hI1.h1)) (.cons _ (.cons _ (.refl _))) (far_next hI1.own.far hI1.h1 hI1.h2), hI1.h1, hI1.h2, Tk.take_inT hf hin⟩
      · have hd : len ≤ i := by omega
        have old0 : ∀ {left : Sy.Left} {w' : World} {t1 t2 : Value}, ({ loose := plainM ob b c ws b2 c2 ws2 k a n e u t t } : Mem).Post w1 left w' → Kept (plainM ob b c ws b2 c2 ws2 k a n e u t t) left.loose [(ws2, 0, t2), (ws, 0, t1)] → Old W w' := fun hp hk =>
          hI1.own.old.next (post_sub hI1.own.looks hp hk) (fun k i ⟨x, hx, e1, _⟩ => by rw [← e1]; exact st_cons hI1.h2 (st1 hI1.h1) x hx)
        have hb0 : (Tk.fits e u && Tk.inT t && Nat.blt 0 1) = true := by rw [hf, hin]; rfl
        cases hr : Tk.right k a n with
        | false =>
          refine Seg.wp host6 _ (plainX ob b c ws b2 c2 ws2 i t k a n e u sa len cap) plainX1_n (plainX1_1 ob b c ws b2 c2 ws2 i t k a n e u sa len cap) (plainX1_2 ob b c ws b2 c2 ws2 i t k a n e u sa len cap) ?_ hfr1 hI1.own.looks.met fun ν j a' w2 hfr2 hp2 => ?_
          · simp [plainX1_o, hr, hd]
          · exact ⟨rfl, (hI1.own.step hI1.own.looks hp2 (.same _) st_nil (.refl _) hI1.own.far).old⟩
        | true =>
          have hk0 : okStep e u t k a n 0 (nextF false) false 0 0 1 = true := okStep_next hf hin rfl hr rfl
          have hr1 := hr
          rw [Tk.right_iff] at hr1
          by_cases hk : k = 1
          · subst hk
            by_cases hx : Tk.next e t a n > Tk.stop e u a
            · have es : Tk.step e u t { kind := 1, at_ := a, n := n, put := false } = ⟨t, { kind := 1, at_ := a, n := n, saw := t, over := true, wait := Tk.waitOf e u t a n }, ⟨1, t, t, true⟩⟩ := by simp [Tk.step, hx]
              have et := Tk.take_wait hr hx
              refine Seg.wp host6 _ (plainX ob b c ws b2 c2 ws2 i t 1 a n e u sa len cap) plainX2_n (plainX2_1 ob b c ws b2 c2 ws2 i t 1 a n e u sa len cap) (plainX2_2 ob b c ws b2 c2 ws2 i t 1 a n e u sa len cap) ?_ hfr1 hI1.own.looks.met fun ν j a' w2 hfr2 hp2 => ?_
              · simp [plainX2_o, hr, hd, hb0, hk0, isPut_next, es, et]
              · exact ⟨rfl, old0 hp2 (.keep (.keep (.keep (.set (.keep (.keep (.keep (.keep (.set (.same _))))))))))⟩
            · have es : Tk.step e u t { kind := 1, at_ := a, n := n, put := false } = ⟨t, { kind := 1, at_ := a, n := n, put := true, saw := t }, ⟨1, t, t, true⟩⟩ := by simp [Tk.step, hx]
              have es2 : Tk.step e u t { kind := 1, at_ := a, n := n, put := true, saw := t } = ⟨Tk.next e t a n, { kind := 1, at_ := a, n := n, saw := t, over := true, ok := true }, ⟨5, t, Tk.next e t a n, true⟩⟩ := by simp [Tk.step]
              have hk2 : okStep e u t 1 a n t (nextF true) false 0 0 1 = true := okStep_next hf hin hin hr rfl
              have et := Tk.take_yes (u := u) hr hx
              refine Seg.wp host6 _ (plainX ob b c ws b2 c2 ws2 i t 1 a n e u sa len cap) plainX3_n (plainX3_1 ob b c ws b2 c2 ws2 i t 1 a n e u sa len cap) (plainX3_2 ob b c ws b2 c2 ws2 i t 1 a n e u sa len cap) ?_ hfr1 hI1.own.looks.met fun ν j a' w2 hfr2 hp2 => ?_
              · simp [plainX3_o, hr, hd, hb0, hk0, isPut_next, es, es2, hk2, et]
              · exact ⟨rfl, old0 hp2 (.keep (.keep (.keep (.set (.keep (.keep (.keep (.keep (.set (.same _))))))))))⟩
          · have hk2 : k = 2 := by omega
            subst hk2
            have hn0 : n = 0 := by omega
            subst hn0
            have es : Tk.step e u t { kind := 2, at_ := a, n := 0, put := false } = ⟨t, { kind := 2, at_ := a, n := 0, saw := t, over := true, left := Tk.leftOf e u t a }, ⟨1, t, t, true⟩⟩ := by simp [Tk.step]
            have ep : Tk.peek e u t a = ⟨Tk.leftOf e u t a, 0⟩ := by simp [Tk.peek, hr]
            refine Seg.wp host6 _ (plainX ob b c ws b2 c2 ws2 i t 2 a 0 e u sa len cap) plainX4_n (plainX4_1 ob b c ws b2 c2 ws2 i t 2 a 0 e u sa len cap) (plainX4_2 ob b c ws b2 c2 ws2 i t 2 a 0 e u sa len cap) ?_ hfr1 hI1.own.looks.met fun ν j a' w2 hfr2 hp2 => ?_
            · simp [plainX4_o, hr, hd, hb0, hk0, isPut_next, es, ep]
            · exact ⟨rfl, old0 (t2 := .int .u64 t) hp2 (.keep (.keep (.keep (.set (.keep (.keep (.keep (.keep (.set (.same _))))))))))⟩
end Go.Proofs.YthglajoihlaldaaDoor.plain
