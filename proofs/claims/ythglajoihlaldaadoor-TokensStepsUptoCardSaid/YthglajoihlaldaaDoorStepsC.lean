/- TokensSteps: the walk whole, its rounds put together. -/
import Derived.Test.YthglajoihlaldaaDoorSteps
namespace Go.Proofs.YthglajoihlaldaaDoor.steps
open Go Sy Close
set_option maxRecDepth 100000
open tok (TOp bktL off_bkt far_bkt own_bkt)

/-- An operation that has not ended is stepped. -/
theorem L2.stepped {W w w' : World} {b c ws : Nat} {us : List Tk.TU} {ps : List Nat} {su sp : Option Addr} {n : Nat} {e u t t' : Int} (h : L2 W b c ws us ps su sp n e u t w) {k p gu gp : Nat} {x x' : Tk.TU} (hx : us[k]? = some x) (hpk : ps[k]? = some p) (hsu : su = some ⟨gu, 0, none⟩) (hsp : sp = some ⟨gp, 0, none⟩)
    {sb so i : Nat} {kv : Value} {st : List (Nat × Nat × Value)} {left : Sy.Left} {l : List (Nat × Nat × Value)} (hl : Sy.Looks w l) (hp : ({ loose := l } : Mem).Post w left w') (hk : Kept l left.loose st)
    (hl' : left.loose = (sb, sadd so (smul i 1), kv) :: (gp, smul k 1, ptrV p) :: arrL gu 9 k (uRow x') 0 (blkL p (pRow b x') 0 (bktL b c ws e u t' usesC)))
    (hst : ∀ y ∈ st, (y.1 = gu ∧ k * 9 ≤ y.2.1 ∧ y.2.1 < k * 9 + 9) ∨ y.1 = p ∨ y.1 = ws) (hin : Tk.inT t' = true) (hg : Tk.Good x' ∧ Tk.Room e u x') : L2 W b c ws (us.set k x') ps su sp n e u t' w' := by
  have hsub := post_sub hl hp hk
  have hL := post_looks hl hp hk
  rw [hl'] at hL
  have bgu := h.lay.bu gu ⟨_, hsu, rfl⟩
  have bgp := h.lay.bp gp ⟨_, hsp, rfl⟩
  have hgg : gp ≠ gu := fun e1 => h.lay.bup gu ⟨_, hsu, rfl⟩ ⟨_, hsp, e1⟩
  have hpm := List.mem_of_getElem? hpk
  have hstW : ∀ y ∈ st, W.heap.size ≤ y.1 := fun y hy => by
    rcases hst y hy with ⟨h1, _⟩ | h1 | h1
    · rw [h1]; exact bgu.1
    · rw [h1]; exact (h.lay.objs.new p hpm).1
    · rw [h1]; exact h.lay.hws
  have hsub2 : (bktL b c ws e u t' usesC).Sublist left.loose := by
    rw [hl']
    exact .cons _ (.cons _ ((blkL_sub).trans (arrL_sub)))
  refine ⟨h.own.step hl hp hk hstW hsub2 (far_bkt h.lay.hb h.lay.hc h.lay.hws far_uses), ⟨h.lay.hb, h.lay.hc, h.lay.hws, h.lay.objs.set hsub hpk (fun q hq hne i ⟨y, hy, e1, _⟩ => ?_) (looks_row (looks_sub (looks_tail (looks_tail hL)) arrL_sub)), h.lay.pb, h.lay.bu, h.lay.bp, h.lay.bup, fun y hy => ?_⟩,
    by simpa using h.len, h.au.set hsub (by simp [uRow]) hsu (fun i ⟨y, hy, e1, e2⟩ => ?_) (looks_arr (looks_tail (looks_tail hL))), h.ap.stay hsub (fun g ⟨a, e1, e2⟩ i ⟨y, hy, e3, _⟩ => ?_), hin⟩
  · rcases hst y hy with ⟨h1, _⟩ | h1 | h1
    · rw [h1] at e1; exact bgu.2.1 (e1 ▸ hq)
    · rw [h1] at e1; exact hne e1.symm
    · rw [h1] at e1; exact (h.lay.pb q hq).2.2 e1
  · rcases List.mem_or_eq_of_mem_set hy with hy | rfl
    · exact h.lay.good y hy
    · exact hg
  · rcases hst y hy with ⟨_, h2, h3⟩ | h1 | h1
    · rw [← e2]; exact ⟨h2, h3⟩
    · rw [h1] at e1; exact absurd (e1 ▸ hpm) bgu.2.1
    · rw [h1] at e1; exact absurd e1 bgu.2.2.2.2
  · rw [hsp] at e1
    cases e1
    simp only at e2
    subst e2
    rcases hst y hy with ⟨h1, _⟩ | h1 | h1
    · rw [h1] at e3; exact hgg e3.symm
    · rw [h1] at e3; exact bgp.2.1 (e3 ▸ hpm)
    · rw [h1] at e3; exact bgp.2.2.2.2 e3

/-- What a round looks at. -/
theorem L2.looks {W w : World} {b c ws : Nat} {us : List Tk.TU} {ps : List Nat} {su sp : Option Addr} {n : Nat} {e u t : Int} (h : L2 W b c ws us ps su sp n e u t w) (hU : UsesAt W) {k p gu gp : Nat} {x : Tk.TU} (hx : us[k]? = some x) (hpk : ps[k]? = some p) (hsu : su = some ⟨gu, 0, none⟩) (hsp : sp = some ⟨gp, 0, none⟩)
    {sb so i : Nat} {kv : Int} (he : Elem W (some ⟨sb, so, none⟩) 1 i [.int .i64 kv]) : Sy.Looks w ((sb, sadd so (smul i 1), .int .i64 kv) :: (gp, smul k 1, ptrV p) :: arrL gu 9 k (uRow x) 0 (blkL p (pRow b x) 0 (bktL b c ws e u t usesC))) := by
  have bgu := h.lay.bu gu ⟨_, hsu, rfl⟩
  have bgp := h.lay.bp gp ⟨_, hsp, rfl⟩
  have hgg : gu ≠ gp := fun e1 => h.lay.bup gu ⟨_, hsu, rfl⟩ ⟨_, hsp, e1.symm⟩
  have hpm := List.mem_of_getElem? hpk
  have hpW := (h.lay.objs.new p hpm).1
  have hpb := h.lay.pb p hpm
  have o1 : Off p (bktL b c ws e u t usesC) := off_bkt hpb.1 hpb.2.1 hpb.2.2 (off_uses hU hpW)
  have l1 := h.lay.objs.looks hx hpk h.own.looks o1
  have o2 : Off gu (blkL p (pRow b x) 0 (bktL b c ws e u t usesC)) := off_blkL (fun e1 => bgu.2.1 (by rw [← e1]; exact hpm)) (off_bkt bgu.2.2.1 bgu.2.2.2.1 bgu.2.2.2.2 (off_uses hU bgu.1))
  have l2 := h.au.looks hx hsu l1 o2
  have o3 : Off gp (arrL gu 9 k (uRow x) 0 (blkL p (pRow b x) 0 (bktL b c ws e u t usesC))) := off_arrL hgg (off_blkL (fun e1 => bgp.2.1 (by rw [← e1]; exact hpm)) (off_bkt bgp.2.2.1 bgp.2.2.2.1 bgp.2.2.2.2 (off_uses hU bgp.1)))
  have l3 := h.ap.looks hpk hsp l2 o3
  exact elem_looks h.own.old l3 (far_arrL bgp.1 (far_arrL bgu.1 (far_blkL hpW (far_bkt h.lay.hb h.lay.hc h.lay.hws far_uses)))) he [(0, .int .i64 kv)] (by simp) (by simp)

theorem calls {W : World} (e u : Int) {oa sa : Option Addr} {on oc sn sc : Nat} {l : List TOp} {ks : List Int} (hl : l.length = on) (hcap : on ≤ oc) (hmax : oc ≤ maxLen) (hel : ∀ i y, l[i]? = some y → Elem W oa 3 i y.row) (hks : ks.length = sn) (hcap2 : sn ≤ sc) (hmax2 : sc ≤ maxLen)
    (hel2 : ∀ i y, ks[i]? = some y → Elem W sa 1 i [.int .i64 y]) (hsmall : on ≤ 1048576) (hU : UsesAt W) : Calls Tryd.prog 5 #[.int .i64 e, .int .i64 u, .slice oa on oc, .slice sa sn sc] W (Done W) := by
  have hlu := looksUses hU
  refine calls_after (X := fun _ _ _ => False) Tryd.func5 body ntmps fun a1 ha => ?_
  cases hf : Tk.fits e u with
  | false =>
    refine Seg.wp host6 _ (stepsA e u oa on oc sa sn sc) stepsA1_n (stepsA1_1 e u oa on oc sa sn sc) (stepsA1_2 e u oa on oc sa sn sc) ?_ ha hlu.met fun ν j a' w' _ hp => ?_
    · simp [stepsA1_o, hf]
    · exact ⟨rfl, ((Own.start hU).step hlu hp (.same _) st_nil (.refl _) far_uses).old⟩
  | true =>
    refine Seg.wp host6 _ (stepsA e u oa on oc sa sn sc) stepsA2_n (stepsA2_1 e u oa on oc sa sn sc) (stepsA2_2 e u oa on oc sa sn sc) ?_ ha hlu.met fun ν j a' w' hfr hp => ?_
    · simp [stepsA2_o, hf]
    · have h0 : Own W usesC w' := (Own.start hU).step hlu hp (.same _) st_nil (.refl _) far_uses
      have hn := hp.news
      have hnn := hp.nnew
      simp only [stepsA2_o] at hn hnn hfr
      generalize ν [0, 1, 0 + 1 + 1, 0 + 1] = b at *
      generalize ν [0 + 1, 1, 0 + 1 + 1, 0 + 1] = c at *
      generalize ν [0 + 1 + 1, 1, 0 + 1 + 1, 0 + 1] = ws at *
      simp only [List.map_cons, List.map_nil, List.nodup_cons, List.mem_cons, List.not_mem_nil, or_false, not_or] at hnn
      simp only [List.forall_mem_cons] at hn
      obtain ⟨n1, n2, n3, _⟩ := hn
      obtain ⟨⟨d1, d2⟩, d3, _⟩ := hnn
      have hB := own_bkt h0 n3 n2 n1 (by first | assumption | (apply Ne.symm; assumption)) (by first | assumption | (apply Ne.symm; assumption)) (by first | assumption | (apply Ne.symm; assumption)) (off_uses hU n3.2) (off_uses hU n2.2) (off_uses hU n1.2)
      have hI : L1 W b c ws [] [] none none 0 0 0 e u w' := ⟨hB, ⟨n3.2, n2.2, n1.2, .nil, by simp, fun g ⟨a, h1, _⟩ => (by cases h1), fun g ⟨a, h1, _⟩ => (by cases h1), fun g ⟨a, h1, _⟩ => (by cases h1), by simp⟩, rfl, World.ownsRow_nil .., World.ownsRow_nil ..⟩
      -- the operations are begun
      refine loop_after (i := 10) (by kernel_rfl) (fun m a0 w => ∃ (i : Nat) (us : List Tk.TU) (ps : List Nat) (su sp : Option Addr) (n cu cp : Nat), m = on - i ∧ i ≤ on ∧ n ≤ i ∧ Fr Tryd.f5.ntmps (stepsL b i su n cu sp cp e u oa on oc sa sn sc) a0 ∧ L1 W b c ws us ps su sp n cu cp e u w) on ⟨0, [], [], none, none, 0, 0, 0, rfl, Nat.zero_le _, Nat.le_refl _, hfr, hI⟩ ?_
      rintro m a1 w1 ⟨i, us, ps, su, sp, n, cu, cp, rfl, hi, hni, hfr1, hI1⟩ Y hY _
      by_cases hlt : i < on
      · obtain ⟨y, hy⟩ : ∃ y, l[i]? = some y := ⟨_, List.getElem?_eq_getElem (by omega)⟩
        have he := hel i y hy
        obtain ⟨ab, ao, rfl, hab, _⟩ := hel i y hy
        have hl1 := elem_looks hI1.own.old hI1.own.looks hI1.own.far he [(0, .int .u8 y.k), (1, .int .i64 y.a), (2, .int .i64 y.n)] (by simp [TOp.row]) (by simp)
        have hm1 := hI1.met hU hl1 (fun g hg ho => off_elemL (by omega) ho)
        have hw := wrap_next hlt hcap hmax
        obtain ⟨k, a, m⟩ := y
        cases hr : Tk.right k a m with
        | true =>
          refine Seg.wp host6 _ (stepsR b c ws i su n cu sp cp (us.flatMap uRow) (ps.flatMap fun p => [ptrV p]) k a m e u ab ao on oc sa sn sc) stepsR1_n (stepsR1_1 b c ws i su n cu sp cp (us.flatMap uRow) (ps.flatMap fun p => [ptrV p]) k a m e u ab ao on oc sa sn sc) (stepsR1_2 b c ws i su n cu sp cp (us.flatMap uRow) (ps.flatMap fun p => [ptrV p]) k a m e u ab ao on oc sa sn sc) ?_ hfr1 hm1 fun ν j a' w2 hfr2 hp2 => ?_
          · simp [stepsR1_o, hr, hlt, addV_eq, maxLen] <;> omega
          · simp only [stepsR1_o, hw, addV_eq] at hfr2
            exact hY (on - (i + 1)) a' w2 (by omega) ⟨i + 1, _, _, _, _, n + 1, _, _, rfl, hlt, by omega, hfr2, hI1.push hl1 hp2 (.same _) (.cons _ (.cons _ (.cons _ (.refl _)))) hr rfl rfl⟩
        | false =>
          refine Seg.wp host6 _ (stepsR b c ws i su n cu sp cp (us.flatMap uRow) (ps.flatMap fun p => [ptrV p]) k a m e u ab ao on oc sa sn sc) stepsR2_n (stepsR2_1 b c ws i su n cu sp cp (us.flatMap uRow) (ps.flatMap fun p => [ptrV p]) k a m e u ab ao on oc sa sn sc) (stepsR2_2 b c ws i su n cu sp cp (us.flatMap uRow) (ps.flatMap fun p => [ptrV p]) k a m e u ab ao on oc sa sn sc) ?_ hfr1 hm1 fun ν j a' w2 hfr2 hp2 => ?_
          · simp [stepsR2_o, hr, hlt]
          · simp only [stepsR2_o, hw] at hfr2
            exact hY (on - (i + 1)) a' w2 (by omega) ⟨i + 1, _, _, _, _, n, _, _, rfl, hlt, by omega, hfr2, hI1.same hl1 hp2 (.same _) (.cons _ (.cons _ (.cons _ (.refl _)))) rfl⟩
      · refine Seg.wp host6 _ (stepsX b i su n cu sp cp e u oa on oc sa sn sc) stepsX1_n (stepsX1_1 b i su n cu sp cp e u oa on oc sa sn sc) (stepsX1_2 b i su n cu sp cp e u oa on oc sa sn sc) ?_ hfr1 (Sy.Looks.nil w1).met fun ν j a' w2 hfr2 hp2 => ?_
        · simp [stepsX1_o] <;> omega
        · have hI2 := hI1.next hp2
          simp only [stepsX1_o] at hfr2
          -- they are stepped
          refine loop_after (i := 23) (by kernel_rfl) (fun m a0 w => ∃ (i : Nat) (us : List Tk.TU) (t : Int), m = sn - i ∧ i ≤ sn ∧ Fr Tryd.f5.ntmps (stepsM b i t su n cu sp cp e u sa sn sc) a0 ∧ L2 W b c ws us ps su sp n e u t w) sn ⟨0, us, 0, rfl, Nat.zero_le _, hfr2, hI2⟩ ?_
          rintro m a3 w3 ⟨i, us, t, rfl, hi, hfr3, hI3⟩ Y hY _
          have hin := hI3.inT
          have ut : IntKind.u64.wrap t = t := by rw [Tk.inT_iff] at hin; exact wrap_u64 (by omega) (by omega)
          by_cases hlt : i < sn
          · obtain ⟨k, hk⟩ : ∃ k, ks[i]? = some k := ⟨_, List.getElem?_eq_getElem (by omega)⟩
            have he := hel2 i k hk
            obtain ⟨sb, so, rfl, hsb, _⟩ := hel2 i k hk
            have hw := wrap_next hlt hcap2 hmax2
            have hl0 : Sy.Looks w3 [(sb, sadd so (smul i 1), .int .i64 k)] := elem_looks hI3.own.old (Sy.Looks.nil w3) (fun _ h => by cases h) he [(0, .int .i64 k)] (by simp) (by simp)
            by_cases hk0 : k < 0
            · refine Seg.wp host6 _ (stepsN b i t su n cu sp cp k e u sb so sn sc) stepsN1_n (stepsN1_1 b i t su n cu sp cp k e u sb so sn sc) (stepsN1_2 b i t su n cu sp cp k e u sb so sn sc) ?_ hfr3 hl0.met fun ν j a' w2 hfr4 hp4 => ?_
              · simp [stepsN1_o, hlt, hk0]
              · simp only [stepsN1_o, hw] at hfr4
                exact hY (sn - (i + 1)) a' w2 (by omega) ⟨i + 1, us, t, rfl, hlt, hfr4, hI3.same hl0 hp4 (.same _)⟩
            · by_cases hkn : k ≥ n
              · refine Seg.wp host6 _ (stepsN b i t su n cu sp cp k e u sb so sn sc) stepsN2_n (stepsN2_1 b i t su n cu sp cp k e u sb so sn sc) (stepsN2_2 b i t su n cu sp cp k e u sb so sn sc) ?_ hfr3 hl0.met fun ν j a' w2 hfr4 hp4 => ?_
                · simp [stepsN2_o, hlt, hk0, hkn] <;> omega
                · simp only [stepsN2_o, hw] at hfr4
                  exact hY (sn - (i + 1)) a' w2 (by omega) ⟨i + 1, us, t, rfl, hlt, hfr4, hI3.same hl0 hp4 (.same _)⟩
              · obtain ⟨k, rfl⟩ : ∃ q : Nat, k = q := ⟨k.toNat, by omega⟩
                have hkl : k < us.length := by have := hI3.len; omega
                obtain ⟨x, hx⟩ : ∃ x, us[k]? = some x := ⟨_, List.getElem?_eq_getElem hkl⟩
                obtain ⟨p, hpk⟩ : ∃ p, ps[k]? = some p := ⟨_, List.getElem?_eq_getElem (by rw [hI3.lay.objs.len]; exact hkl)⟩
                obtain ⟨gu, hsu, _⟩ := hI3.au k x hx
                obtain ⟨gp, hsp, _⟩ := hI3.ap k p hpk
                subst hsu hsp
                have hl3 := hI3.looks hU hx hpk rfl rfl he
                obtain ⟨hg, hroom⟩ := hI3.lay.good x (List.mem_of_getElem? hx)
                have hkn' : ¬ (n ≤ k) := by omega
                have hkn2 : k < n := by omega
                obtain ⟨kind, at_, m, put, saw, over, ok, wait, left⟩ := x
                obtain ⟨g1, g2, g3⟩ := hg
                cases over with
                | true =>
                  refine Seg.wp host6 _ (stepsS4 b c ws p gu gp i t n cu cp k kind at_ m put saw ok wait left e u sb so sn sc) stepsS4_n (stepsS4_1 b c ws p gu gp i t n cu cp k kind at_ m put saw ok wait left e u sb so sn sc) (stepsS4_2 b c ws p gu gp i t n cu cp k kind at_ m put saw ok wait left e u sb so sn sc) ?_ hfr3 hl3.met fun ν j a' w2 hfr4 hp4 => ?_
                  · simp [stepsS4_o, hlt, hkn', hkn2, ut]
                  · simp only [stepsS4_o, hw] at hfr4
                    exact hY (sn - (i + 1)) a' w2 (by omega) ⟨i + 1, us, t, rfl, hlt, hfr4, hI3.same hl3 hp4 (.same _)⟩
                | false =>
                  obtain ⟨rfl, rfl, rfl⟩ := g3 rfl
                  simp only at g1 g2
                  have hGood : Tk.Good { kind := kind, at_ := at_, n := m, put := put, saw := saw } := ⟨g1, g2, fun _ => ⟨rfl, rfl, rfl⟩⟩
                  have hin' := Tk.step_inT hf hin hGood hroom
                  have hG' := Tk.step_good (e := e) (u := u) hin hGood rfl
                  have hR' := Tk.step_room (t := t) hroom
                  have hks : okStep e u t kind at_ m saw (nextF put) false 0 0 1 = true := okStep_next hf hin g2 g1 rfl
                  have ut' : IntKind.u64.wrap (Tk.step e u t { kind := kind, at_ := at_, n := m, put := put, saw := saw }).t = (Tk.step e u t { kind := kind, at_ := at_, n := m, put := put, saw := saw }).t := by have h := hin'; rw [Tk.inT_iff] at h; exact wrap_u64 (by omega) (by omega)
                  refine Seg.wp host6 _ (stepsS3 b c ws p gu gp i t n cu cp k kind at_ m put saw e u sb so sn sc) stepsS3_n (stepsS3_1 b c ws p gu gp i t n cu cp k kind at_ m put saw e u sb so sn sc) (stepsS3_2 b c ws p gu gp i t n cu cp k kind at_ m put saw e u sb so sn sc) ?_ hfr3 hl3.met fun ν j a' w2 hfr4 hp4 => ?_
                  · have h3 := hG'.fresh
                    simp only [stepsS3_o, isPut_next]
                    generalize Tk.step e u t { kind := kind, at_ := at_, n := m, put := put, saw := saw } = z at *
                    cases ho : z.u.over with
                    | true => simp [ho, hlt, hkn', hkn2, hf, hin, g1, g2, hks, ut']
                    | false =>
                      obtain ⟨q1, q2, q3⟩ := h3 ho
                      simp [ho, q1, q2, q3, hlt, hkn', hkn2, hf, hin, g1, g2, hks, ut']
                  · have hu := Tk.step_u e u t { kind := kind, at_ := at_, n := m, put := put, saw := saw }
                    simp only [stepsS3_o, hw, isPut_next] at hfr4 hp4
                    generalize Tk.step e u t { kind := kind, at_ := at_, n := m, put := put, saw := saw } = z at *
                    rw [hu] at hG' hR'
                    refine hY (sn - (i + 1)) a' w2 (by omega) ⟨i + 1, _, _, rfl, hlt, hfr4, hI3.stepped hx hpk rfl rfl hl3 hp4 (.keep (.keep (.keep (.keep (.keep (.set (.set (.set (.set (.set (.set (.set (.set (.set (.set (.set (.set (.keep (.keep (.keep (.keep (.set (.same _))))))))))))))))))))))) rfl (fun y hy => ?_) hin' ⟨hG', hR'⟩⟩
                    simp only [List.mem_cons, List.not_mem_nil, or_false, smul_eq] at hy
                    rcases hy with rfl | rfl | rfl | rfl | rfl | rfl | rfl | rfl | rfl | rfl | rfl | rfl | rfl <;> simp
          · refine Seg.wp host6 _ (stepsY b c ws i t su n cu sp cp e u sa sn sc) stepsY1_n (stepsY1_1 b c ws i t su n cu sp cp e u sa sn sc) (stepsY1_2 b c ws i t su n cu sp cp e u sa sn sc) ?_ hfr3 hI3.own.looks.met fun ν j a' w2 hfr4 hp4 => ?_
            · simp [stepsY1_o, ut] <;> omega
            · exact ⟨rfl, (hI3.own.step hI3.own.looks hp4 (.same _) st_nil (.refl _) hI3.own.far).old⟩
end Go.Proofs.YthglajoihlaldaaDoor.steps
