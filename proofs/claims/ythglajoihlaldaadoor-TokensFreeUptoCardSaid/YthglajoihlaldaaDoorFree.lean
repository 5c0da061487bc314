/- TokensFree: the walk whole. -/
import Derived.Test.YthglajoihlaldaaDoorFreeB
namespace Go.Proofs.YthglajoihlaldaaDoor.free
open Go Sy Close
set_option maxRecDepth 100000
open tok (TOp bktL off_bkt far_bkt own_bkt)
open tokl
theorem body : Tryd.f8.body = some (codeOf Tryd.f8) := by kernel_rfl
theorem ntmps : 4 ≤ Tryd.f8.ntmps := by decide +kernel
theorem made_row (n : Nat) : (madeCells (Value.cells (.int .i64 0)) (n * 1)).toList = (List.replicate n (0 : Int)).flatMap intRow := by
  have h : (Value.cells (.int .i64 0)) = #[.int .i64 0] := rfl
  rw [Nat.mul_one, h]
  apply List.ext_getElem?
  intro i
  have e2 : (List.replicate n (0 : Int)).flatMap intRow = List.replicate n (.int .i64 0) := by
    induction n with
    | zero => rfl
    | succ n ih => rw [List.replicate_succ, List.replicate_succ, List.flatMap_cons, ih]; rfl
  rw [e2]
  by_cases hi : i < n <;> simp [madeCells, hi, Nat.mod_one]
/-- What stands at the second loop's head: of an operation that is to put, how many swaps had been done when it looked. -/
structure FInv (W : World) (b c ws : Nat) (us : List Tk.TU) (ps : List Nat) (sp : Option Addr) (n : Nat) (e u t : Int) (gl : Nat) (lds : List Int) (swaps : Nat) (w : World) : Prop where
  pend : Pend W b c ws us ps sp n e u t w
  al : Arr w 1 intRow (some ⟨gl, 0, none⟩) lds
  fl : tokl.Free W b c ws ps gl ∧ ¬ At sp gl
  len : lds.length = us.length
  mem : ∀ (k : Nat) x ld, us[k]? = some x → lds[k]? = some ld → x.put = true → ld ≤ swaps ∧ (ld = swaps → t = x.saw)
theorem FInv.same {W w w' : World} {b c ws : Nat} {us : List Tk.TU} {ps : List Nat} {sp : Option Addr} {n : Nat} {e u t : Int} {gl : Nat} {lds : List Int} {swaps : Nat} (h : FInv W b c ws us ps sp n e u t gl lds swaps w) (hU : UsesAt W) {l : List (Nat × Nat × Value)} {left : Sy.Left} (hl : Sy.Looks w l) (hp : ({ loose := l } : Mem).Post w left w') (hk : Kept l left.loose []) :
    FInv W b c ws us ps sp n e u t gl lds swaps w' :=
  ⟨h.pend.stay hU (post_sub hl hp hk) (fun g i ⟨x, hx, _⟩ => by cases hx), h.al.stay (post_sub hl hp hk) (fun g _ i ⟨x, hx, _⟩ => by cases hx), h.fl, h.len, h.mem⟩

theorem calls {W : World} (e u : Int) {oa sa : Option Addr} {on oc sn sc : Nat} {l : List TOp} {ks : List Int} (hl : l.length = on) (hcap : on ≤ oc) (hmax : oc ≤ maxLen) (hel : ∀ i y, l[i]? = some y → Elem W oa 3 i y.row) (hks : ks.length = sn) (hcap2 : sn ≤ sc) (hmax2 : sc ≤ maxLen)
    (hel2 : ∀ i y, ks[i]? = some y → Elem W sa 1 i [.int .i64 y]) (hsmall : on ≤ 1048576) (hU : UsesAt W) : Calls Tryd.prog 8 #[.int .i64 e, .int .i64 u, .slice oa on oc, .slice sa sn sc] W (Done W) := by
  have hlu := looksUses hU
  refine calls_after (X := fun _ _ _ => False) Tryd.func8 body ntmps fun a1 ha => ?_
  cases hf : Tk.fits e u with
  | false =>
    refine Seg.wp host6 _ (freeA e u oa on oc sa sn sc) freeA1_n (freeA1_1 e u oa on oc sa sn sc) (freeA1_2 e u oa on oc sa sn sc) ?_ ha hlu.met fun ν j a' w' _ hp => ?_
    · simp [freeA1_o, hf]
    · exact ⟨rfl, ((Own.start hU).step hlu hp (.same _) st_nil (.refl _) far_uses).old⟩
  | true =>
    refine Seg.wp host6 _ (freeA e u oa on oc sa sn sc) freeA2_n (freeA2_1 e u oa on oc sa sn sc) (freeA2_2 e u oa on oc sa sn sc) ?_ ha hlu.met fun ν j a' w' hfr hp => ?_
    · simp [freeA2_o, hf]
    · have h0 : Own W usesC w' := (Own.start hU).step hlu hp (.same _) st_nil (.refl _) far_uses
      have hn := hp.news
      have hnn := hp.nnew
      simp only [freeA2_o] at hn hnn hfr
      generalize ν [0, 1, 0 + 1 + 1, 0 + 1 + 1] = b at *
      generalize ν [0 + 1, 1, 0 + 1 + 1, 0 + 1 + 1] = c at *
      generalize ν [0 + 1 + 1, 1, 0 + 1 + 1, 0 + 1 + 1] = ws at *
      simp only [List.map_cons, List.map_nil, List.nodup_cons, List.mem_cons, List.not_mem_nil, or_false, not_or] at hnn
      simp only [List.forall_mem_cons] at hn
      obtain ⟨n1, n2, n3, _⟩ := hn
      obtain ⟨⟨d1, d2⟩, d3, _⟩ := hnn
      have hI : Beg W b c ws [] [] none 0 0 [] e u w' := Beg.start hU h0 n3 n2 n1 (by first | assumption | (apply Ne.symm; assumption)) (by first | assumption | (apply Ne.symm; assumption)) (by first | assumption | (apply Ne.symm; assumption)) (by simp)
      refine loop_after (i := 8) (by kernel_rfl) (fun m a0 w => ∃ (i : Nat) (us : List Tk.TU) (ps : List Nat) (sp : Option Addr) (n cp : Nat), m = on - i ∧ i ≤ on ∧ n ≤ i ∧ Fr Tryd.f8.ntmps (freeL b i sp n cp e u oa on oc sa sn sc) a0 ∧ Beg W b c ws us ps sp n cp [] e u w) on ⟨0, [], [], none, 0, 0, rfl, Nat.zero_le _, Nat.le_refl _, hfr, hI⟩ ?_
      rintro m a1 w1 ⟨i, us, ps, sp, n, cp, rfl, hi, hni, hfr1, hI1⟩ Y hY _
      by_cases hlt : i < on
      · obtain ⟨y, hy⟩ : ∃ y, l[i]? = some y := ⟨_, List.getElem?_eq_getElem (by omega)⟩
        have he := hel i y hy
        obtain ⟨ab, ao, rfl, hab, _⟩ := hel i y hy
        have hl1 := elem_looks hI1.own.old hI1.own.looks hI1.own.far he [(0, .int .u8 y.k), (1, .int .i64 y.a), (2, .int .i64 y.n)] (by simp [TOp.row]) (by simp)
        have hm1 := hI1.met hU hl1 (fun g hg ho => off_elemL (by omega) ho)
        have hw := wrap_next hlt hcap hmax
        obtain ⟨k, a, m⟩ := y
        cases hr : Tk.right k a m with
        | true =>
          refine Seg.wp host6 _ (freeR b c ws i sp n cp (ps.flatMap fun p => [ptrV p]) k a m e u ab ao on oc sa sn sc) freeR1_n (freeR1_1 b c ws i sp n cp (ps.flatMap fun p => [ptrV p]) k a m e u ab ao on oc sa sn sc) (freeR1_2 b c ws i sp n cp (ps.flatMap fun p => [ptrV p]) k a m e u ab ao on oc sa sn sc) ?_ hfr1 hm1 fun ν j a' w2 hfr2 hp2 => ?_
          · simp [freeR1_o, hr, hlt, addV_eq, maxLen] <;> omega
          · simp only [freeR1_o, hw, addV_eq] at hfr2
            exact hY (on - (i + 1)) a' w2 (by omega) ⟨i + 1, _, _, _, n + 1, _, rfl, hlt, by omega, hfr2, hI1.push hl1 hp2 (.same _) (.cons _ (.cons _ (.cons _ (.refl _)))) hr rfl rfl⟩
        | false =>
          refine Seg.wp host6 _ (freeR b c ws i sp n cp (ps.flatMap fun p => [ptrV p]) k a m e u ab ao on oc sa sn sc) freeR2_n (freeR2_1 b c ws i sp n cp (ps.flatMap fun p => [ptrV p]) k a m e u ab ao on oc sa sn sc) (freeR2_2 b c ws i sp n cp (ps.flatMap fun p => [ptrV p]) k a m e u ab ao on oc sa sn sc) ?_ hfr1 hm1 fun ν j a' w2 hfr2 hp2 => ?_
          · simp [freeR2_o, hr, hlt]
          · simp only [freeR2_o, hw] at hfr2
            exact hY (on - (i + 1)) a' w2 (by omega) ⟨i + 1, _, _, _, n, _, rfl, hlt, by omega, hfr2, hI1.same hl1 hp2 (.same _) (.cons _ (.cons _ (.cons _ (.refl _)))) rfl⟩
      · refine Seg.wp host6 _ (freeX b i sp n cp e u oa on oc sa sn sc) freeX1_n (freeX1_1 b i sp n cp e u oa on oc sa sn sc) (freeX1_2 b i sp n cp e u oa on oc sa sn sc) ?_ hfr1 (Sy.Looks.nil w1).met fun ν j a' w2 hfr2 hp2 => ?_
        · simp [freeX1_o, maxLen]
          exact ⟨decide_eq_true (by omega), by omega, by omega⟩
        · have hs0 : Sub (fun _ _ => False) w1 w2 := hp2.sub.less fun k i hc _ => by
            rcases hc with ⟨c, hm, _⟩ | ⟨x, hx, _⟩
            · cases hm
            · cases hx
          have hP := hI1.next.stay hU hs0 (fun _ _ h => h.elim)
          have hv := hp2.vecs
          have hvo := hp2.vold
          simp only [freeX1_o, Int.toNat_natCast] at hfr2 hv hvo
          generalize ν [0, 0, 0 + 1 + 1, 0 + 1] = gl at *
          have v1 := hv _ (List.mem_cons_self ..)
          have v2 : w1.heap.size ≤ gl := by
            rcases hvo _ (List.mem_cons_self ..) gl rfl with ⟨y, hy, _⟩ | h
            · cases hy
            · exact h
          simp only [made_row] at v1
          obtain ⟨lb, lc, lws⟩ := hI1.lt
          have hgl : tokl.Free W b c ws ps gl ∧ ¬ At sp gl := ⟨⟨Nat.le_trans hI1.own.size v2, fun hm => by have := (hI1.lay.objs.new gl hm).2; omega, by omega, by omega, by omega⟩,
            fun ⟨a0, e1, e2⟩ => by
              have := heap_lt_of_own (hI1.vec _ (List.mem_cons_self ..)) (g := gl) (by rw [e1]; simp [Value.ownBlock, e2])
              omega⟩
          have hI2 : FInv W b c ws us ps sp n e u 0 gl (List.replicate n 0) 0 w2 := ⟨hP, arr_of_owns v1 (by simp) rfl (by simp [intRow]), hgl, by simp [hI1.len], fun k x ld hx hld hput => absurd hput (by rw [hI1.fresh x (List.mem_of_getElem? hx)]; simp)⟩
          refine loop_after (i := 16) (by kernel_rfl) (fun m a0 w => ∃ (i : Nat) (us : List Tk.TU) (t : Int) (lds : List Int) (swaps : Nat), m = sn - i ∧ i ≤ sn ∧ swaps ≤ i ∧ Fr Tryd.f8.ntmps (freeM b i sp n cp gl swaps sa sn sc) a0 ∧ FInv W b c ws us ps sp n e u t gl lds swaps w) sn ⟨0, us, 0, _, 0, rfl, Nat.zero_le _, Nat.le_refl _, hfr2, hI2⟩ ?_
          rintro m a3 w3 ⟨i, us, t, lds, swaps, rfl, hi, hsw, hfr3, hI3⟩ Y hY _
          have hin := hI3.pend.inT
          by_cases hlt : i < sn
          · obtain ⟨k, hk⟩ : ∃ k, ks[i]? = some k := ⟨_, List.getElem?_eq_getElem (by omega)⟩
            have he := hel2 i k hk
            obtain ⟨sb, so, rfl, hsb, _⟩ := hel2 i k hk
            have hw := wrap_next hlt hcap2 hmax2
            have hws : IntKind.i64.wrap ((swaps : Int) + 1) = ((swaps + 1 : Nat) : Int) := by
              rw [wrap_i64 (by omega) (by unfold maxLen at hmax2; omega)]; simp
            have hl0 : Sy.Looks w3 [(sb, sadd so (smul i 1), .int .i64 k)] := elem_looks hI3.pend.own.old (Sy.Looks.nil w3) (fun _ h => by cases h) he [(0, .int .i64 k)] (by simp) (by simp)
            by_cases hk0 : k < 0
            · refine Seg.wp host6 _ (freeN b i sp n cp gl swaps k sb so sn sc) freeN1_n (freeN1_1 b i sp n cp gl swaps k sb so sn sc) (freeN1_2 b i sp n cp gl swaps k sb so sn sc) ?_ hfr3 hl0.met fun ν j a' w2 hfr4 hp4 => ?_
              · simp [freeN1_o, hlt, hk0]
              · simp only [freeN1_o, hw] at hfr4
                exact hY (sn - (i + 1)) a' w2 (by omega) ⟨i + 1, us, t, lds, swaps, rfl, hlt, by omega, hfr4, hI3.same hU hl0 hp4 (.same _)⟩
            · by_cases hkn : k ≥ n
              · refine Seg.wp host6 _ (freeN b i sp n cp gl swaps k sb so sn sc) freeN2_n (freeN2_1 b i sp n cp gl swaps k sb so sn sc) (freeN2_2 b i sp n cp gl swaps k sb so sn sc) ?_ hfr3 hl0.met fun ν j a' w2 hfr4 hp4 => ?_
                · simp [freeN2_o, hlt, hk0, hkn] <;> omega
                · simp only [freeN2_o, hw] at hfr4
                  exact hY (sn - (i + 1)) a' w2 (by omega) ⟨i + 1, us, t, lds, swaps, rfl, hlt, by omega, hfr4, hI3.same hU hl0 hp4 (.same _)⟩
              · obtain ⟨k, rfl⟩ : ∃ q : Nat, k = q := ⟨k.toNat, by omega⟩
                have hkl : k < us.length := by have := hI3.pend.len; omega
                obtain ⟨x, hx⟩ : ∃ x, us[k]? = some x := ⟨_, List.getElem?_eq_getElem hkl⟩
                obtain ⟨p, hpk⟩ : ∃ p, ps[k]? = some p := ⟨_, List.getElem?_eq_getElem (by rw [hI3.pend.lay.objs.len]; exact hkl)⟩
                obtain ⟨ld, hld⟩ : ∃ ld, lds[k]? = some ld := ⟨_, List.getElem?_eq_getElem (by rw [hI3.len]; exact hkl)⟩
                obtain ⟨gp, hsp, _⟩ := hI3.pend.ap k p hpk
                subst hsp
                have hO := hI3.pend.looks hU hx hpk rfl
                have hoff := hI3.pend.off (x := x) hU hpk rfl hI3.fl.1 hI3.fl.2
                have hl3 := elem_looks hI3.pend.own.old (hI3.al.looks hld rfl hO.looks hoff) (far_arrL hI3.fl.1.new hO.far) he [(0, .int .i64 (k : Int))] (by simp) (by simp)
                have hmk := hI3.mem k x ld hx hld
                obtain ⟨hg, hroom⟩ := hI3.pend.lay.good x (List.mem_of_getElem? hx)
                have hkn' : ¬ (n ≤ k) := by omega
                have hkn2 : k < n := by omega
                have hpm := List.mem_of_getElem? hpk
                have hgp := hI3.pend.lay.bp gp ⟨_, rfl, rfl⟩
                obtain ⟨kind, at_, m, put, saw, over, ok, wait, left⟩ := x
                obtain ⟨g1, g2, g3⟩ := hg
                cases over with
                | true =>
                  refine Seg.wp host6 _ (freeO b c ws p gp i t n cp k gl swaps ld kind at_ m put saw ok wait left e u sb so sn sc) freeO1_n (freeO1_1 b c ws p gp i t n cp k gl swaps ld kind at_ m put saw ok wait left e u sb so sn sc) (freeO1_2 b c ws p gp i t n cp k gl swaps ld kind at_ m put saw ok wait left e u sb so sn sc) ?_ hfr3 hl3.met fun ν j a' w2 hfr4 hp4 => ?_
                  · simp [freeO1_o, hlt, hkn', hkn2]
                  · simp only [freeO1_o, hw] at hfr4
                    exact hY (sn - (i + 1)) a' w2 (by omega) ⟨i + 1, us, t, lds, swaps, rfl, hlt, by omega, hfr4, hI3.same hU hl3 hp4 (.same _)⟩
                | false =>
                  obtain ⟨rfl, rfl, rfl⟩ := g3 rfl
                  simp only at g1 g2
                  have hGood : Tk.Good { kind := kind, at_ := at_, n := m, put := put, saw := saw } := ⟨g1, g2, fun _ => ⟨rfl, rfl, rfl⟩⟩
                  have hin' := Tk.step_inT hf hin hGood hroom
                  have hG' := Tk.step_good (e := e) (u := u) hin hGood rfl
                  have hR' := Tk.step_room (t := t) hroom
                  have hks : okStep e u t kind at_ m saw (nextF put) false 0 0 1 = true := okStep_next hf hin g2 g1 rfl
                  have hu := Tk.step_u e u t { kind := kind, at_ := at_, n := m, put := put, saw := saw }
                  have F := Tk.fine hf hin g1
                  cases put with
                  | false =>
                    -- it looks
                    have hz : (Tk.step e u t { kind := kind, at_ := at_, n := m, put := false, saw := saw }).t = t ∧ (Tk.step e u t { kind := kind, at_ := at_, n := m, put := false, saw := saw }).d = ⟨1, t, t, true⟩ ∧ (Tk.step e u t { kind := kind, at_ := at_, n := m, put := false, saw := saw }).u.saw = t := by
                      unfold Tk.step
                      simp only
                      split
                      · exact ⟨rfl, rfl, rfl⟩
                      · split <;> exact ⟨rfl, rfl, rfl⟩
                    refine Seg.wp host6 _ (freeP b c ws p gp i t n cp k gl swaps ld kind at_ m false saw e u sb so sn sc) freeP1_n (freeP1_1 b c ws p gp i t n cp k gl swaps ld kind at_ m false saw e u sb so sn sc) (freeP1_2 b c ws p gp i t n cp k gl swaps ld kind at_ m false saw e u sb so sn sc) ?_ hfr3 hl3.met fun ν j a' w2 hfr4 hp4 => ?_
                    · simp only [freeP1_o, isPut_next]
                      simp [hz.1, hz.2.1, hks, hlt, hkn', hkn2]
                    · simp only [freeP1_o, hw, isPut_next] at hfr4 hp4
                      obtain ⟨z1, z2, z3⟩ := hz
                      generalize Tk.step e u t { kind := kind, at_ := at_, n := m, put := false, saw := saw } = z at *
                      rw [hu] at hG' hR'
                      have hsub := post_sub hl3 hp4 (.keep (.set (.keep (.set (.set (.set (.set (.set (.set (.keep (.keep (.keep (.keep (.set (.same _)))))))))))))))
                      have hL := post_looks hl3 hp4 (.keep (.set (.keep (.set (.set (.set (.set (.set (.set (.keep (.keep (.keep (.keep (.set (.same _)))))))))))))))
                      refine hY (sn - (i + 1)) a' w2 (by omega) ⟨i + 1, us.set k _, z.t, lds.set k swaps, swaps, rfl, hlt, by omega, hfr4,
                        ⟨hI3.pend.stepped hpk hsub (fun g i ⟨y, hy, e1, e2⟩ => ?_) (looks_tail (looks_tail (looks_tail hL))) hin' ⟨hG', hR'⟩, hI3.al.set hsub (by simp [intRow]) rfl (fun i ⟨y, hy, e1, e2⟩ => ?_) (looks_arr (looks_tail hL)), hI3.fl, by simp [hI3.len], fun j x1 l1 hx1 hl1 hp1 => ?_⟩⟩
                      · simp only [List.mem_cons, List.not_mem_nil, or_false] at hy
                        rcases hy with rfl | rfl | rfl | rfl | rfl | rfl | rfl | rfl
                        · exact .inr (.inr (by rw [← e1]; exact hI3.fl))
                        all_goals first | exact .inl e1.symm | exact .inr (.inl e1.symm)
                      · simp only [List.mem_cons, List.not_mem_nil, or_false] at hy
                        rcases hy with rfl | rfl | rfl | rfl | rfl | rfl | rfl | rfl
                        · simp only at e2; rw [← e2, smul_eq]; omega
                        all_goals first | exact absurd e1 (fun e3 => hI3.fl.1.ps (e3 ▸ hpm)) | exact absurd e1 hI3.fl.1.ws
                      · by_cases hjk : j = k
                        · subst hjk
                          rw [List.getElem?_set_self hkl] at hx1
                          rw [List.getElem?_set_self (by rw [hI3.len]; exact hkl)] at hl1
                          cases hx1
                          cases hl1
                          exact ⟨Int.le_refl _, fun _ => by simp only; rw [z1, z3]⟩
                        · rw [List.getElem?_set_ne (fun hh => hjk hh.symm)] at hx1 hl1
                          rw [z1]
                          exact hI3.mem j x1 l1 hx1 hl1 hp1
                  | true =>
                    obtain ⟨m1, m2⟩ := hmk rfl
                    by_cases hts : t = saw
                    · -- it puts
                      have hz : Tk.step e u t { kind := kind, at_ := at_, n := m, put := true, saw := saw } = ⟨Tk.next e t at_ m, { kind := kind, at_ := at_, n := m, put := false, saw := saw, over := true, ok := true }, ⟨5, t, Tk.next e t at_ m, true⟩⟩ := by simp [Tk.step, hts]
                      have hup : t < Tk.next e t at_ m := by
                        have hm1 : 1 ≤ m := by
                          have := g1
                          rw [Tk.right_iff] at this
                          rcases this.2.2 with h | h
                          · exact h.2.1
                          · exact absurd h.1 (hroom rfl).2
                        have : 1 ≤ m * e := Int.le_trans hm1 (by have := Int.mul_le_mul_of_nonneg_left F.e1 (show 0 ≤ m by omega); simpa using this)
                        unfold Tk.next; omega
                      refine Seg.wp host6 _ (freeP b c ws p gp i t n cp k gl swaps ld kind at_ m true saw e u sb so sn sc) freeP2_n (freeP2_1 b c ws p gp i t n cp k gl swaps ld kind at_ m true saw e u sb so sn sc) (freeP2_2 b c ws p gp i t n cp k gl swaps ld kind at_ m true saw e u sb so sn sc) ?_ hfr3 hl3.met fun ν j a' w2 hfr4 hp4 => ?_
                      · simp only [freeP2_o, isPut_next]
                        simp [hz, hks, hlt, hkn', hkn2] <;> omega
                      · simp only [freeP2_o, hw, hws, isPut_next] at hfr4 hp4
                        rw [hz] at hG' hR' hin'
                        simp only [hz] at hp4
                        have hsub := post_sub hl3 hp4 (.keep (.keep (.keep (.set (.set (.set (.set (.set (.set (.keep (.keep (.keep (.keep (.set (.same _)))))))))))))))
                        have hL := post_looks hl3 hp4 (.keep (.keep (.keep (.set (.set (.set (.set (.set (.set (.keep (.keep (.keep (.keep (.set (.same _)))))))))))))))
                        refine hY (sn - (i + 1)) a' w2 (by omega) ⟨i + 1, us.set k _, _, lds, swaps + 1, rfl, hlt, by omega, hfr4,
                          ⟨hI3.pend.stepped hpk hsub (fun g i ⟨y, hy, e1, e2⟩ => ?_) (looks_tail (looks_tail (looks_tail hL))) hin' ⟨hG', hR'⟩, hI3.al.stay hsub (fun g ⟨a0, q1, q2⟩ i ⟨y, hy, e1, e2⟩ => ?_), hI3.fl, by simp [hI3.len], fun j x1 l1 hx1 hl1 hp1 => ?_⟩⟩
                        · simp only [List.mem_cons, List.not_mem_nil, or_false] at hy
                          rcases hy with rfl | rfl | rfl | rfl | rfl | rfl | rfl
                          all_goals first | exact .inl e1.symm | exact .inr (.inl e1.symm)
                        · cases q1
                          simp only at q2
                          subst q2
                          simp only [List.mem_cons, List.not_mem_nil, or_false] at hy
                          rcases hy with rfl | rfl | rfl | rfl | rfl | rfl | rfl
                          all_goals first | exact absurd e1 (fun e3 => hI3.fl.1.ps (e3 ▸ hpm)) | exact absurd e1 hI3.fl.1.ws
                        · by_cases hjk : j = k
                          · subst hjk
                            rw [List.getElem?_set_self hkl] at hx1
                            cases hx1
                            cases hp1
                          · rw [List.getElem?_set_ne (fun hh => hjk hh.symm)] at hx1
                            have := (hI3.mem j x1 l1 hx1 hl1 hp1).1
                            exact ⟨by omega, fun hh => by omega⟩
                    · -- another has put since
                      have hz : Tk.step e u t { kind := kind, at_ := at_, n := m, put := true, saw := saw } = ⟨t, { kind := kind, at_ := at_, n := m, put := false, saw := saw }, ⟨5, t, t, false⟩⟩ := by simp [Tk.step, hts]
                      have hne : ¬ (swaps : Int) = ld := fun hh => hts (m2 hh.symm)
                      refine Seg.wp host6 _ (freeP b c ws p gp i t n cp k gl swaps ld kind at_ m true saw e u sb so sn sc) freeP3_n (freeP3_1 b c ws p gp i t n cp k gl swaps ld kind at_ m true saw e u sb so sn sc) (freeP3_2 b c ws p gp i t n cp k gl swaps ld kind at_ m true saw e u sb so sn sc) ?_ hfr3 hl3.met fun ν j a' w2 hfr4 hp4 => ?_
                      · simp only [freeP3_o, isPut_next]
                        simp [hz, hks, hlt, hkn', hkn2, hne]
                      · simp only [freeP3_o, hw, isPut_next] at hfr4 hp4
                        rw [hz] at hG' hR' hin'
                        simp only [hz] at hp4
                        have hsub := post_sub hl3 hp4 (.keep (.keep (.keep (.set (.set (.set (.set (.set (.set (.keep (.keep (.keep (.keep (.set (.same _)))))))))))))))
                        have hL := post_looks hl3 hp4 (.keep (.keep (.keep (.set (.set (.set (.set (.set (.set (.keep (.keep (.keep (.keep (.set (.same _)))))))))))))))
                        refine hY (sn - (i + 1)) a' w2 (by omega) ⟨i + 1, us.set k _, _, lds, swaps, rfl, hlt, by omega, hfr4,
                          ⟨hI3.pend.stepped hpk hsub (fun g i ⟨y, hy, e1, e2⟩ => ?_) (looks_tail (looks_tail (looks_tail hL))) hin' ⟨hG', hR'⟩, hI3.al.stay hsub (fun g ⟨a0, q1, q2⟩ i ⟨y, hy, e1, e2⟩ => ?_), hI3.fl, by simp [hI3.len], fun j x1 l1 hx1 hl1 hp1 => ?_⟩⟩
                        · simp only [List.mem_cons, List.not_mem_nil, or_false] at hy
                          rcases hy with rfl | rfl | rfl | rfl | rfl | rfl | rfl
                          all_goals first | exact .inl e1.symm | exact .inr (.inl e1.symm)
                        · cases q1
                          simp only at q2
                          subst q2
                          simp only [List.mem_cons, List.not_mem_nil, or_false] at hy
                          rcases hy with rfl | rfl | rfl | rfl | rfl | rfl | rfl
                          all_goals first | exact absurd e1 (fun e3 => hI3.fl.1.ps (e3 ▸ hpm)) | exact absurd e1 hI3.fl.1.ws
                        · by_cases hjk : j = k
                          · subst hjk
                            rw [List.getElem?_set_self hkl] at hx1
                            cases hx1
                            cases hp1
                          · rw [List.getElem?_set_ne (fun hh => hjk hh.symm)] at hx1
                            exact hI3.mem j x1 l1 hx1 hl1 hp1
          · refine Seg.wp host6 _ (freeY b i sp n cp gl swaps sa sn sc) freeY1_n (freeY1_1 b i sp n cp gl swaps sa sn sc) (freeY1_2 b i sp n cp gl swaps sa sn sc) ?_ hfr3 (Sy.Looks.nil w3).met fun ν j a' w2 hfr4 hp4 => ?_
            · simp [freeY1_o] <;> omega
            · exact ⟨rfl, (hI3.pend.own.stepN hp4).old⟩
end Go.Proofs.YthglajoihlaldaaDoor.free
