/- TokensLimit: the walk whole, its rounds put together. -/
import Derived.Test.YthglajoihlaldaaDoorLimit
namespace Go.Proofs.YthglajoihlaldaaDoor.limit
open Go Sy Close
set_option maxRecDepth 100000
open tok (TOp bktL off_bkt far_bkt own_bkt)
open tokl

/-- The runs of what was given: the two last loops. -/
theorem runs {W : World} {e u t : Int} {D : List Tk.Gv} {sd : Option Addr} {dn dc : Nat} {a0 : Act} {w : World} {Y : Nat → Act → World → Prop} (hf : Tk.fits e u = true) (hlim : Tk.Lim e u D t) (hlen : dn = D.length) (hsmall : dn ≤ 1048576)
    (hA : Arr w 2 gRow sd D) (hO : Old W w) (hW : ∀ g, At sd g → W.heap.size ≤ g) (hfr : Fr Tryd.f4.ntmps (limG 0 sd dn dc e u) a0) : (Code.loop (cutAt Tryd.f4 25).1).wp Tryd.prog (after Tryd.prog Y (bodyPost Tryd.prog Tryd.f4 (Done W)) (cutAt Tryd.f4 25).2) a0 w := by
  have hmax : 1048576 ≤ maxLen := by decide
  have hff := hf
  rw [Tk.fits_iff] at hff
  refine loop_after (i := 25) (by kernel_rfl) (fun m a0 w => ∃ i : Nat, m = dn - i ∧ i ≤ dn ∧ Fr Tryd.f4.ntmps (limG i sd dn dc e u) a0 ∧ Arr w 2 gRow sd D ∧ Old W w) dn ⟨0, rfl, Nat.zero_le _, hfr, hA, hO⟩ ?_
  rintro m a1 w1 ⟨i, rfl, hi, hfr1, hA1, hO1⟩ Y hY _
  by_cases hlt : i < dn
  · obtain ⟨d, hd⟩ : ∃ d, D[i]? = some d := ⟨_, List.getElem?_eq_getElem (by omega)⟩
    obtain ⟨gd, rfl, hc⟩ := hA1 i d hd
    have hWd := hW gd ⟨_, rfl, rfl⟩
    have hl1 : Sy.Looks w1 [(gd, smul i 2, .int .i64 d.a)] := looks_add (Sy.Looks.nil w1) (by rw [smul_eq]; exact hc 0 _ rfl) (by simp)
    refine Seg.wp host7 _ (limY i gd dn dc d.a e u) limY1_n (limY1_1 i gd dn dc d.a e u) (limY1_2 i gd dn dc d.a e u) ?_ hfr1 hl1.met fun ν j a' w2 hfr2 hp2 => ?_
    · simp [limY1_o, hlt]
    · have hs2 := post_sub hl1 hp2 (.same _)
      simp only [limY1_o] at hfr2
      refine loop_after (i := 31) (by kernel_rfl) (fun m a0 w => ∃ (k : Nat) (lo hi sum : Int), m = dn - k ∧ k ≤ dn ∧ Fr Tryd.f4.ntmps (limH i gd dn dc lo hi sum k e u) a0 ∧ Tk.Run e D i k lo hi sum ∧ Arr w 2 gRow (some ⟨gd, 0, none⟩) D ∧ Old W w) (dn - i)
        ⟨i, d.a, d.a, 0, rfl, by omega, hfr2, Tk.Run.start hlim hd, hA1.stay hs2 (fun g _ j ⟨x, hx, _⟩ => by cases hx), hO1.next hs2 (fun k j ⟨x, hx, _⟩ => by cases hx)⟩ ?_
      rintro m a3 w3 ⟨k, lo, hi, sum, rfl, hk, hfr3, hR, hA3, hO3⟩ Y2 hY2 hYe
      by_cases hlt2 : k < dn
      · obtain ⟨d2, hd2⟩ : ∃ d, D[k]? = some d := ⟨_, List.getElem?_eq_getElem (by omega)⟩
        obtain ⟨g', e1, hc2⟩ := hA3 k d2 hd2
        simp only [Option.some.injEq, Addr.mk.injEq, and_true] at e1
        subst e1
        have hl3 : Sy.Looks w3 [(gd, smul k 2, .int .i64 d2.a), (gd, smul k 2 + 1, .int .i64 d2.n)] :=
          looks_add (looks_add (Sy.Looks.nil w3) (by rw [smul_eq]; exact hc2 1 _ rfl) (by simp)) (by rw [smul_eq]; exact hc2 0 _ rfl) (by simp)
        obtain ⟨q1, q2, q3, q4, _⟩ := hlim.each k d2 hd2
        have hw := wrap_next hlt2 hsmall hmax
        have hb : ((k : Int) - i) * 1048576 ≤ 1048576 * 1048576 := Int.mul_le_mul_of_nonneg_right (by omega) (by omega)
        have hs := hR.sum1
        have hs0 := hR.sum0
        have hsw : IntKind.i64.wrap (sum + d2.n) = sum + d2.n := wrap_i64 (by omega) (by omega)
        have hlo := hR.lo0
        have hhi := hR.hi0
        have hlh := hR.lohi
        have fin : ∀ {lo' hi' : Int} {a' : Act} {w' : World} {left : Sy.Left}, lo' = min lo d2.a → hi' = max hi d2.a → Fr Tryd.f4.ntmps (limH i gd dn dc lo' hi' (sum + d2.n) (k + 1) e u) a' → ({ loose := [(gd, smul k 2, .int .i64 d2.a), (gd, smul k 2 + 1, .int .i64 d2.n)] } : Mem).Post w3 left w' →
            Kept [(gd, smul k 2, .int .i64 d2.a), (gd, smul k 2 + 1, .int .i64 d2.n)] left.loose [] → Y2 31 a' w' := fun hlo hhi hfr' hp' hk' => by
          have hs' := post_sub hl3 hp' hk'
          exact hY2 (dn - (k + 1)) _ _ (by omega) ⟨k + 1, _, _, _, rfl, hlt2, hfr', (hR.next hlim hf hd2 hlo hhi).1, hA3.stay hs' (fun g _ j ⟨x, hx, _⟩ => by cases hx), hO3.next hs' (fun k j ⟨x, hx, _⟩ => by cases hx)⟩
        by_cases h1 : d2.a < lo
        · have hb := (hR.next hlim hf hd2 (lo' := d2.a) (hi' := hi) (by omega) (by omega)).2
          refine Seg.wp host7 _ (limZ i gd dn dc lo hi sum k d2.a d2.n e u) limZ2_n (limZ2_1 i gd dn dc lo hi sum k d2.a d2.n e u) (limZ2_2 i gd dn dc lo hi sum k d2.a d2.n e u) ?_ hfr3 hl3.met fun ν j a' w2 hfr4 hp4 => ?_
          · simp [limZ2_o, hlt2, h1, hf, hsw] <;> omega
          · simp only [limZ2_o, hw, hsw] at hfr4
            exact fin (lo' := d2.a) (hi' := hi) (by omega) (by omega) hfr4 hp4 (.same _)
        · by_cases h2 : d2.a > hi
          · have hb := (hR.next hlim hf hd2 (lo' := lo) (hi' := d2.a) (by omega) (by omega)).2
            refine Seg.wp host7 _ (limZ i gd dn dc lo hi sum k d2.a d2.n e u) limZ3_n (limZ3_1 i gd dn dc lo hi sum k d2.a d2.n e u) (limZ3_2 i gd dn dc lo hi sum k d2.a d2.n e u) ?_ hfr3 hl3.met fun ν j a' w2 hfr4 hp4 => ?_
            · simp [limZ3_o, hlt2, h1, h2, hf, hsw] <;> omega
            · simp only [limZ3_o, hw, hsw] at hfr4
              exact fin (lo' := lo) (hi' := d2.a) (by omega) (by omega) hfr4 hp4 (.same _)
          · have hb := (hR.next hlim hf hd2 (lo' := lo) (hi' := hi) (by omega) (by omega)).2
            refine Seg.wp host7 _ (limZ i gd dn dc lo hi sum k d2.a d2.n e u) limZ1_n (limZ1_1 i gd dn dc lo hi sum k d2.a d2.n e u) (limZ1_2 i gd dn dc lo hi sum k d2.a d2.n e u) ?_ hfr3 hl3.met fun ν j a' w2 hfr4 hp4 => ?_
            · simp [limZ1_o, hlt2, h1, h2, hf, hsw] <;> omega
            · simp only [limZ1_o, hw, hsw] at hfr4
              exact fin (lo' := lo) (hi' := hi) (by omega) (by omega) hfr4 hp4 (.same _)
      · refine Seg.wp host7 _ (limF i gd dn dc lo hi sum k e u) limF1_n (limF1_1 i gd dn dc lo hi sum k e u) (limF1_2 i gd dn dc lo hi sum k e u) ?_ hfr3 (Sy.Looks.nil w3).met fun ν j a' w4 hfr4 hp4 => ?_
        · simp [limF1_o] <;> omega
        · have hs4 : Sub (fun _ _ => False) w3 w4 := (post_sub (Sy.Looks.nil w3) hp4 (.same _)).mono (fun k i ⟨x, hx, _⟩ => by cases hx)
          have hw := wrap_next hlt hsmall hmax
          simp only [limF1_o, hw] at hfr4
          show Y2 25 a' w4
          rw [hYe 25 (by decide)]
          exact hY (dn - (i + 1)) a' w4 (by omega) ⟨i + 1, rfl, hlt, hfr4, hA3.stay hs4 (fun _ _ _ => id), hO3.next hs4 (fun _ _ => False.elim)⟩
  · refine Seg.wp host7 _ (limE i sd dn dc e u) limE1_n (limE1_1 i sd dn dc e u) (limE1_2 i sd dn dc e u) ?_ hfr1 (Sy.Looks.nil w1).met fun ν j a' w2 hfr2 hp2 => ?_
    · simp [limE1_o] <;> omega
    · exact ⟨rfl, hO1.next (post_sub (Sy.Looks.nil w1) hp2 (.same _)) (fun k i ⟨x, hx, _⟩ => by cases hx)⟩

theorem calls {W : World} (e u : Int) {oa sa : Option Addr} {on oc sn sc : Nat} {l : List TOp} {ks : List Int} (hl : l.length = on) (hcap : on ≤ oc) (hmax : oc ≤ maxLen) (hel : ∀ i y, l[i]? = some y → Elem W oa 3 i y.row) (hks : ks.length = sn) (hcap2 : sn ≤ sc) (hmax2 : sc ≤ maxLen)
    (hel2 : ∀ i y, ks[i]? = some y → Elem W sa 1 i [.int .i64 y]) (hsmall : on ≤ 1048576) (hsmall2 : sn ≤ 1048576) (hU : UsesAt W) : Calls Tryd.prog 4 #[.int .i64 e, .int .i64 u, .slice oa on oc, .slice sa sn sc] W (Done W) := by
  have hlu := looksUses hU
  refine calls_after (X := fun _ _ _ => False) Tryd.func4 body ntmps fun a1 ha => ?_
  cases hf : Tk.fits e u with
  | false =>
    refine Seg.wp host7 _ (limA e u oa on oc sa sn sc) limA1_n (limA1_1 e u oa on oc sa sn sc) (limA1_2 e u oa on oc sa sn sc) ?_ ha hlu.met fun ν j a' w' _ hp => ?_
    · simp [limA1_o, hf]
    · exact ⟨rfl, ((Own.start hU).step hlu hp (.same _) st_nil (.refl _) far_uses).old⟩
  | true =>
    refine Seg.wp host7 _ (limA e u oa on oc sa sn sc) limA2_n (limA2_1 e u oa on oc sa sn sc) (limA2_2 e u oa on oc sa sn sc) ?_ ha hlu.met fun ν j a' w' hfr hp => ?_
    · simp [limA2_o, hf]
    · have h0 : Own W usesC w' := (Own.start hU).step hlu hp (.same _) st_nil (.refl _) far_uses
      have hn := hp.news
      have hnn := hp.nnew
      simp only [limA2_o] at hn hnn hfr
      generalize ν [0, 1, 0 + 1 + 1, 0 + 1 + 1] = b at *
      generalize ν [0 + 1, 1, 0 + 1 + 1, 0 + 1 + 1] = c at *
      generalize ν [0 + 1 + 1, 1, 0 + 1 + 1, 0 + 1 + 1] = ws at *
      simp only [List.map_cons, List.map_nil, List.nodup_cons, List.mem_cons, List.not_mem_nil, or_false, not_or] at hnn
      simp only [List.forall_mem_cons] at hn
      obtain ⟨n1, n2, n3, _⟩ := hn
      obtain ⟨⟨d1, d2⟩, d3, _⟩ := hnn
      have hI : Beg W b c ws [] [] none 0 0 [kVec none 0 0 []] e u w' := Beg.start hU h0 n3 n2 n1 (by first | assumption | (apply Ne.symm; assumption)) (by first | assumption | (apply Ne.symm; assumption)) (by first | assumption | (apply Ne.symm; assumption)) (by simp [kVec])
      refine loop_after (i := 9) (by kernel_rfl) (fun m a0 w => ∃ (i : Nat) (us : List Tk.TU) (ps : List Nat) (sp : Option Addr) (n cp : Nat) (sk : Option Addr) (ck : Nat), m = on - i ∧ i ≤ on ∧ n ≤ i ∧ Fr Tryd.f4.ntmps (limL b i sp n cp sk ck e u oa on oc sa sn sc) a0 ∧ Beg W b c ws us ps sp n cp [kVec sk n ck us] e u w) on ⟨0, [], [], none, 0, 0, none, 0, rfl, Nat.zero_le _, Nat.le_refl _, hfr, hI⟩ ?_
      rintro m a1 w1 ⟨i, us, ps, sp, n, cp, sk, ck, rfl, hi, hni, hfr1, hI1⟩ Y hY _
      by_cases hlt : i < on
      · obtain ⟨y, hy⟩ : ∃ y, l[i]? = some y := ⟨_, List.getElem?_eq_getElem (by omega)⟩
        have he := hel i y hy
        obtain ⟨ab, ao, rfl, hab, _⟩ := hel i y hy
        have hl1 := elem_looks hI1.own.old hI1.own.looks hI1.own.far he [(0, .int .u8 y.k), (1, .int .i64 y.a), (2, .int .i64 y.n)] (by simp [TOp.row]) (by simp)
        have hm1 := hI1.met hU hl1 (fun g hg ho => off_elemL (by omega) ho)
        have hw := wrap_next hlt hcap hmax
        obtain ⟨k, a, m⟩ := y
        cases hr : Tk.right k a m with
        | true =>
          refine Seg.wp host7 _ (limR b c ws i sp n cp sk ck (ps.flatMap fun p => [ptrV p]) (us.flatMap kRow) k a m e u ab ao on oc sa sn sc) limR1_n (limR1_1 b c ws i sp n cp sk ck (ps.flatMap fun p => [ptrV p]) (us.flatMap kRow) k a m e u ab ao on oc sa sn sc) (limR1_2 b c ws i sp n cp sk ck (ps.flatMap fun p => [ptrV p]) (us.flatMap kRow) k a m e u ab ao on oc sa sn sc) ?_ hfr1 hm1 fun ν j a' w2 hfr2 hp2 => ?_
          · simp [limR1_o, hr, hlt, addV_eq, maxLen] <;> omega
          · simp only [limR1_o, hw, addV_eq] at hfr2
            have ev : ∀ (g c : Nat), (⟨34, 3, .slice (some ⟨g, 0, none⟩) (addV n 1) c, addV n 1, us.flatMap kRow ++ [.int .u8 k, .int .i64 a, .int .i64 m]⟩ : Vec) = kVec (some ⟨g, 0, none⟩) (n + 1) c (us ++ [{ kind := k, at_ := a, n := m }]) := fun g c => by
              simp only [kVec, addV_eq, List.flatMap_append, List.flatMap_cons, List.flatMap_nil, List.append_nil]
              rfl
            have hB := hI1.push (vo' := [⟨34, 3, .slice (some ⟨_, 0, none⟩) (addV n 1) _, addV n 1, us.flatMap kRow ++ [.int .u8 k, .int .i64 a, .int .i64 m]⟩]) hl1 hp2 (.same _) (.cons _ (.cons _ (.cons _ (.refl _)))) hr rfl rfl
            rw [ev] at hB
            exact hY (on - (i + 1)) a' w2 (by omega) ⟨i + 1, _, _, _, n + 1, _, _, _, rfl, hlt, by omega, hfr2, hB⟩
        | false =>
          refine Seg.wp host7 _ (limR b c ws i sp n cp sk ck (ps.flatMap fun p => [ptrV p]) (us.flatMap kRow) k a m e u ab ao on oc sa sn sc) limR2_n (limR2_1 b c ws i sp n cp sk ck (ps.flatMap fun p => [ptrV p]) (us.flatMap kRow) k a m e u ab ao on oc sa sn sc) (limR2_2 b c ws i sp n cp sk ck (ps.flatMap fun p => [ptrV p]) (us.flatMap kRow) k a m e u ab ao on oc sa sn sc) ?_ hfr1 hm1 fun ν j a' w2 hfr2 hp2 => ?_
          · simp [limR2_o, hr, hlt]
          · simp only [limR2_o, hw] at hfr2
            exact hY (on - (i + 1)) a' w2 (by omega) ⟨i + 1, _, _, _, n, _, _, _, rfl, hlt, by omega, hfr2, hI1.same hl1 hp2 (.same _) (.cons _ (.cons _ (.cons _ (.refl _)))) rfl⟩
      · refine Seg.wp host7 _ (limX b i sp n cp sk ck e u oa on oc sa sn sc) limX1_n (limX1_1 b i sp n cp sk ck e u oa on oc sa sn sc) (limX1_2 b i sp n cp sk ck e u oa on oc sa sn sc) ?_ hfr1 (Sy.Looks.nil w1).met fun ν j a' w2 hfr2 hp2 => ?_
        · simp [limX1_o] <;> omega
        · have hs0 : Sub (fun _ _ => False) w1 w2 := (post_sub (Sy.Looks.nil w1) hp2 (.same _)).mono (fun k i ⟨x, hx, _⟩ => by cases hx)
          simp only [limX1_o] at hfr2
          have hkv := hI1.vec _ (List.mem_cons_of_mem _ (List.mem_cons_self ..))
          have hsk : ∀ g, At sk g → tokl.Free W b c ws ps g ∧ ¬ At sp g := fun g ⟨a0, q1, q2⟩ => by
            have hob : (kVec sk n ck us).v.ownBlock = some g := by simp [kVec, q1, Value.ownBlock, q2]
            refine ⟨hI1.free _ (List.mem_cons_of_mem _ (List.mem_cons_self ..)) g hob, fun ⟨a2, q3, q4⟩ => ?_⟩
            exact (List.pairwise_cons.1 hI1.dist).1 _ (List.mem_cons_self ..) g (by simp [pVec, q3, Value.ownBlock, q4]) hob
          have hI2 : LInv W b c ws us ps sp n e u 0 sk none 0 0 [] w2 := ⟨hI1.next.stay hU hs0 (fun _ _ h => h.elim), (arr_of_owns (row := id) (us := us.map kRow) hkv (by rw [List.length_map]; exact hI1.len) (by simp [List.flatMap, List.map_map, Function.comp_def]) (by simp [kRow])).stay hs0 (fun _ _ _ => id), hsk, World.ownsRow_nil .., fun g ⟨a0, q1, _⟩ => (by cases q1), rfl, Tk.lim_nil e u⟩
          refine loop_after (i := 17) (by kernel_rfl) (fun m a0 w => ∃ (i : Nat) (us : List Tk.TU) (t : Int) (sd : Option Addr) (dn dc : Nat) (D : List Tk.Gv), m = sn - i ∧ i ≤ sn ∧ dn ≤ i ∧ Fr Tryd.f4.ntmps (limM b i sp n cp sk ck sd dn dc e u sa sn sc) a0 ∧ LInv W b c ws us ps sp n e u t sk sd dn dc D w) sn ⟨0, us, 0, none, 0, 0, [], rfl, Nat.zero_le _, Nat.le_refl _, hfr2, hI2⟩ ?_
          rintro m a3 w3 ⟨i, us, t, sd, dn, dc, D, rfl, hi, hdn, hfr3, hI3⟩ Y hY _
          have hin := hI3.pend.inT
          by_cases hlt : i < sn
          · obtain ⟨k, hk⟩ : ∃ k, ks[i]? = some k := ⟨_, List.getElem?_eq_getElem (by omega)⟩
            have he := hel2 i k hk
            obtain ⟨sb, so, rfl, hsb, _⟩ := hel2 i k hk
            have hw := wrap_next hlt hcap2 hmax2
            have hl0 : Sy.Looks w3 [(sb, sadd so (smul i 1), .int .i64 k)] := elem_looks hI3.pend.own.old (Sy.Looks.nil w3) (fun _ h => by cases h) he [(0, .int .i64 k)] (by simp) (by simp)
            by_cases hk0 : k < 0
            · refine Seg.wp host7 _ (limN b i sp n cp sk ck sd dn dc k e u sb so sn sc) limN1_n (limN1_1 b i sp n cp sk ck sd dn dc k e u sb so sn sc) (limN1_2 b i sp n cp sk ck sd dn dc k e u sb so sn sc) ?_ hfr3 hl0.met fun ν j a' w2 hfr4 hp4 => ?_
              · simp [limN1_o, hlt, hk0]
              · simp only [limN1_o, hw] at hfr4
                exact hY (sn - (i + 1)) a' w2 (by omega) ⟨i + 1, us, t, sd, dn, dc, D, rfl, hlt, by omega, hfr4, hI3.same hU hl0 hp4 (.same _)⟩
            · by_cases hkn : k ≥ n
              · refine Seg.wp host7 _ (limN b i sp n cp sk ck sd dn dc k e u sb so sn sc) limN2_n (limN2_1 b i sp n cp sk ck sd dn dc k e u sb so sn sc) (limN2_2 b i sp n cp sk ck sd dn dc k e u sb so sn sc) ?_ hfr3 hl0.met fun ν j a' w2 hfr4 hp4 => ?_
                · simp [limN2_o, hlt, hk0, hkn] <;> omega
                · simp only [limN2_o, hw] at hfr4
                  exact hY (sn - (i + 1)) a' w2 (by omega) ⟨i + 1, us, t, sd, dn, dc, D, rfl, hlt, by omega, hfr4, hI3.same hU hl0 hp4 (.same _)⟩
              · obtain ⟨k, rfl⟩ : ∃ q : Nat, k = q := ⟨k.toNat, by omega⟩
                have hkl : k < us.length := by have := hI3.pend.len; omega
                obtain ⟨x, hx⟩ : ∃ x, us[k]? = some x := ⟨_, List.getElem?_eq_getElem hkl⟩
                obtain ⟨p, hpk⟩ : ∃ p, ps[k]? = some p := ⟨_, List.getElem?_eq_getElem (by rw [hI3.pend.lay.objs.len]; exact hkl)⟩
                obtain ⟨gp, hsp, _⟩ := hI3.pend.ap k p hpk
                have hkx : (us.map kRow)[k]? = some (kRow x) := by rw [List.getElem?_map, hx]; rfl
                obtain ⟨gk, hskk, _⟩ := hI3.ak k (kRow x) hkx
                subst hsp hskk
                have hO := hI3.pend.looks hU hx hpk rfl
                obtain ⟨f1, f2⟩ := hI3.fk gk ⟨_, rfl, rfl⟩
                have hoff := hI3.pend.off (x := x) hU hpk rfl f1 f2
                have hla := hI3.ak.looks hkx rfl hO.looks hoff
                have hl3 := elem_looks hI3.pend.own.old hla (far_arrL f1.new hO.far) he [(0, .int .i64 (k : Int))] (by simp) (by simp)
                have hm3 : ({ loose := elemL sb so 1 i [(0, .int .i64 (k : Int))] (arrL gk 3 k (id (kRow x)) 0 ((gp, smul k 1, ptrV p) :: blkL p (pRow b x) 0 (bktL b c ws e u t usesC))), vecs := [dVec sd dn dc D] } : Mem).Met w3 :=
                  looks_met_v hl3 (fun y hy => by simp only [List.mem_singleton] at hy; subst hy; exact hI3.od) (fun y hy g hg => by
                    simp only [List.mem_singleton] at hy; subst hy
                    obtain ⟨q1, q2, q3⟩ := hI3.fd g (own_at hg)
                    exact off_elemL (by have := q1.new; omega) (off_arrL (fun e1 => q3 ⟨_, rfl, e1⟩) (hI3.pend.off (x := x) hU hpk rfl q1 q2))) (List.pairwise_singleton ..)
                obtain ⟨hg, hroom⟩ := hI3.pend.lay.good x (List.mem_of_getElem? hx)
                have hkn' : ¬ (n ≤ k) := by omega
                have hkn2 : k < n := by omega
                obtain ⟨kind, at_, m, put, saw, over, ok, wait, left⟩ := x
                obtain ⟨g1, g2, g3⟩ := hg
                cases over with
                | true =>
                  refine Seg.wp host7 _ (limO b c ws p gp gk i t n cp ck k sd dn dc (D.flatMap gRow) kind at_ m put saw ok wait left e u sb so sn sc) limO1_n (limO1_1 b c ws p gp gk i t n cp ck k sd dn dc (D.flatMap gRow) kind at_ m put saw ok wait left e u sb so sn sc) (limO1_2 b c ws p gp gk i t n cp ck k sd dn dc (D.flatMap gRow) kind at_ m put saw ok wait left e u sb so sn sc) ?_ hfr3 hm3 fun ν j a' w2 hfr4 hp4 => ?_
                  · simp [limO1_o, hlt, hkn', hkn2]
                  · simp only [limO1_o, hw] at hfr4 hp4
                    have hL := post_looks_v hl3 hp4 (.same _)
                    have hset : us.set k { kind := kind, at_ := at_, n := m, put := put, saw := saw, over := true, ok := ok, wait := wait, left := left } = us := by
                      apply List.ext_getElem?
                      intro i
                      by_cases hik : k = i
                      · subst hik; rw [List.getElem?_set_self hkl, hx]
                      · rw [List.getElem?_set_ne hik]
                    have := hI3.stepped hl3 hp4 (.same _) hx hpk (by simp) (looks_tail (looks_tail (looks_tail (looks_tail (looks_tail hL))))) hin ⟨⟨g1, g2, g3⟩, hroom⟩ rfl rfl hI3.len hI3.lim
                    rw [hset] at this
                    exact hY (sn - (i + 1)) a' w2 (by omega) ⟨i + 1, us, t, sd, dn, dc, D, rfl, hlt, by omega, hfr4, this⟩
                | false =>
                  obtain ⟨rfl, rfl, rfl⟩ := g3 rfl
                  simp only at g1 g2
                  have hGood : Tk.Good { kind := kind, at_ := at_, n := m, put := put, saw := saw } := ⟨g1, g2, fun _ => ⟨rfl, rfl, rfl⟩⟩
                  have hin' := Tk.step_inT hf hin hGood hroom
                  have hG' := Tk.step_good (e := e) (u := u) hin hGood rfl
                  have hR' := Tk.step_room (t := t) hroom
                  have hks : okStep e u t kind at_ m saw (nextF put) false 0 0 1 = true := okStep_next hf hin g2 g1 rfl
                  have hu := Tk.step_u e u t { kind := kind, at_ := at_, n := m, put := put, saw := saw }
                  obtain ⟨so1, so2⟩ := step_ok (e := e) (u := u) (t := t) (x := { kind := kind, at_ := at_, n := m, put := put, saw := saw }) rfl
                  generalize hz : Tk.step e u t { kind := kind, at_ := at_, n := m, put := put, saw := saw } = z at *
                  have hfresh := hG'.fresh
                  cases ho : z.u.ok with
                  | false =>
                    have ht := so1 ho
                    rw [hu] at hG' hR'
                    cases hov : z.u.over with
                    | false =>
                      refine Seg.wp host7 _ (limP b c ws p gp gk i t n cp ck k sd dn dc (D.flatMap gRow) kind at_ m put saw e u sb so sn sc) limP1_n (limP1_1 b c ws p gp gk i t n cp ck k sd dn dc (D.flatMap gRow) kind at_ m put saw e u sb so sn sc) (limP1_2 b c ws p gp gk i t n cp ck k sd dn dc (D.flatMap gRow) kind at_ m put saw e u sb so sn sc) ?_ hfr3 hm3 fun ν j a' w2 hfr4 hp4 => ?_
                      · simp only [limP1_o, isPut_next, hz]
                        simp [hov, hlt, hkn', hkn2, hks]
                      · simp only [limP1_o, hw, isPut_next, hz] at hfr4 hp4
                        have hL := post_looks_v hl3 hp4 (.keep (.keep (.keep (.keep (.keep (.set (.set (.set (.set (.set (.set (.keep (.keep (.keep (.keep (.set (.same _)))))))))))))))))
                        refine hY (sn - (i + 1)) a' w2 (by omega) ⟨i + 1, _, _, sd, dn, dc, D, rfl, hlt, by omega, hfr4, hI3.stepped hl3 hp4 (.keep (.keep (.keep (.keep (.keep (.set (.set (.set (.set (.set (.set (.keep (.keep (.keep (.keep (.set (.same _))))))))))))))))) hx hpk (fun y hy => ?_) (looks_tail (looks_tail (looks_tail (looks_tail (looks_tail hL))))) hin' ⟨hG', hR'⟩ rfl rfl hI3.len (by rw [ht]; exact hI3.lim)⟩
                        simp only [List.mem_cons, List.not_mem_nil, or_false] at hy
                        rcases hy with rfl | rfl | rfl | rfl | rfl | rfl | rfl <;> first | exact .inl rfl | exact .inr rfl
                    | true =>
                      refine Seg.wp host7 _ (limP b c ws p gp gk i t n cp ck k sd dn dc (D.flatMap gRow) kind at_ m put saw e u sb so sn sc) limP2_n (limP2_1 b c ws p gp gk i t n cp ck k sd dn dc (D.flatMap gRow) kind at_ m put saw e u sb so sn sc) (limP2_2 b c ws p gp gk i t n cp ck k sd dn dc (D.flatMap gRow) kind at_ m put saw e u sb so sn sc) ?_ hfr3 hm3 fun ν j a' w2 hfr4 hp4 => ?_
                      · simp only [limP2_o, isPut_next, hz]
                        simp [hov, ho, hlt, hkn', hkn2, hks]
                      · simp only [limP2_o, hw, isPut_next, hz] at hfr4 hp4
                        have hL := post_looks_v hl3 hp4 (.keep (.keep (.keep (.keep (.keep (.set (.set (.set (.set (.set (.set (.keep (.keep (.keep (.keep (.set (.same _)))))))))))))))))
                        refine hY (sn - (i + 1)) a' w2 (by omega) ⟨i + 1, _, _, sd, dn, dc, D, rfl, hlt, by omega, hfr4, hI3.stepped hl3 hp4 (.keep (.keep (.keep (.keep (.keep (.set (.set (.set (.set (.set (.set (.keep (.keep (.keep (.keep (.set (.same _))))))))))))))))) hx hpk (fun y hy => ?_) (looks_tail (looks_tail (looks_tail (looks_tail (looks_tail hL))))) hin' ⟨hG', hR'⟩ rfl rfl hI3.len (by rw [ht]; exact hI3.lim)⟩
                        simp only [List.mem_cons, List.not_mem_nil, or_false] at hy
                        rcases hy with rfl | rfl | rfl | rfl | rfl | rfl | rfl <;> first | exact .inl rfl | exact .inr rfl
                  | true =>
                    obtain ⟨p1, p2, p3⟩ := so2 ho
                    simp only at p1 p2 p3
                    have hov : z.u.over = true := by
                      cases h : z.u.over with
                      | true => rfl
                      | false => have := (hfresh h).1; rw [ho] at this; cases this
                    rw [hu] at hG' hR'
                    obtain ⟨hn5, hk5⟩ := hroom p1
                    have hD : Tk.Lim e u (D ++ [⟨at_, m⟩]) z.t := by
                      rw [p3]
                      have hr := g1
                      rw [Tk.right_iff] at hr
                      have h12 : 1 ≤ m ∧ m ≤ 1048576 := by
                        rcases hr.2.2 with h | h
                        · exact h.2
                        · exact absurd h.1 hk5
                      exact hI3.lim.snoc (d := ⟨at_, m⟩) h12.1 h12.2 hr.1 hr.2.1 (by rw [p2]; exact hn5)
                    refine Seg.wp host7 _ (limP b c ws p gp gk i t n cp ck k sd dn dc (D.flatMap gRow) kind at_ m put saw e u sb so sn sc) limP3_n (limP3_1 b c ws p gp gk i t n cp ck k sd dn dc (D.flatMap gRow) kind at_ m put saw e u sb so sn sc) (limP3_2 b c ws p gp gk i t n cp ck k sd dn dc (D.flatMap gRow) kind at_ m put saw e u sb so sn sc) ?_ hfr3 hm3 fun ν j a' w2 hfr4 hp4 => ?_
                    · simp only [limP3_o, isPut_next, hz]
                      simp [hov, ho, hlt, hkn', hkn2, hks, addV_eq, maxLen] <;> omega
                    · simp only [limP3_o, hw, isPut_next, hz, addV_eq] at hfr4 hp4
                      have hL := post_looks_v hl3 hp4 (.keep (.keep (.keep (.keep (.keep (.set (.set (.set (.set (.set (.set (.keep (.keep (.keep (.keep (.set (.same _)))))))))))))))))
                      have ev : ∀ (g c : Nat), (⟨52, 2, .slice (some ⟨g, 0, none⟩) (dn + 1) c, dn + 1, D.flatMap gRow ++ [.int .i64 at_, .int .i64 m]⟩ : Vec) = dVec (some ⟨g, 0, none⟩) (dn + 1) c (D ++ [⟨at_, m⟩]) := fun g c => by
                        simp only [dVec, List.flatMap_append, List.flatMap_cons, List.flatMap_nil, List.append_nil]
                        rfl
                      rw [ev] at hp4
                      refine hY (sn - (i + 1)) a' w2 (by omega) ⟨i + 1, _, _, _, dn + 1, _, _, rfl, hlt, by omega, hfr4, hI3.stepped hl3 hp4 (.keep (.keep (.keep (.keep (.keep (.set (.set (.set (.set (.set (.set (.keep (.keep (.keep (.keep (.set (.same _))))))))))))))))) hx hpk (fun y hy => ?_) (looks_tail (looks_tail (looks_tail (looks_tail (looks_tail hL))))) hin' ⟨hG', hR'⟩ rfl rfl (by simp [hI3.len]) hD⟩
                      simp only [List.mem_cons, List.not_mem_nil, or_false] at hy
                      rcases hy with rfl | rfl | rfl | rfl | rfl | rfl | rfl <;> first | exact .inl rfl | exact .inr rfl
          · refine Seg.wp host7 _ (limV b i sp n cp sk ck sd dn dc e u sa sn sc) limV1_n (limV1_1 b i sp n cp sk ck sd dn dc e u sa sn sc) (limV1_2 b i sp n cp sk ck sd dn dc e u sa sn sc) ?_ hfr3 (Sy.Looks.nil w3).met fun ν j a' w2 hfr4 hp4 => ?_
            · simp [limV1_o] <;> omega
            · have hs4 : Sub (fun _ _ => False) w3 w2 := (post_sub (Sy.Looks.nil w3) hp4 (.same _)).mono (fun k i ⟨x, hx, _⟩ => by cases hx)
              simp only [limV1_o] at hfr4
              exact runs hf hI3.lim hI3.len (by omega) ((arr_of_owns hI3.od hI3.len rfl (by simp [gRow])).stay hs4 (fun _ _ _ => id)) (hI3.pend.own.stepN hp4).old (fun g hg => (hI3.fd g hg).1.new) hfr4
end Go.Proofs.YthglajoihlaldaaDoor.limit
