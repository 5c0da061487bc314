/- SnapQuiet: the walk whole. -/
import Derived.Test.YtmihblocomnfjaaDoorSnQB
import Derived.Test.YtmihblocomnfjaaDoorSnOp
set_option linter.unusedSimpArgs false
set_option linter.unusedVariables false
namespace Go.Proofs.YtmihblocomnfjaaDoor.squiet
open Go Sy Close
set_option maxRecDepth 100000
open Sn (regR SD SP nxt did wd num vl)
open snst (blk vcs uV rV pS swp pD all_one)
theorem body : Tryd.f5.body = some (codeOf Tryd.f5) := by kernel_rfl
theorem ntmps : 3 ≤ Tryd.f5.ntmps := by decide +kernel
theorem calls {W : World} (n tr : Int) {oa : Option Addr} {on oc : Nat} {l : List snop.Op} (hl : l.length = on) (hcap : on ≤ oc) (hmax : oc ≤ maxLen) (hel : ∀ i y, l[i]? = some y → Elem W oa 4 i y.row) (hU : UsesAt W) :
    Calls Tryd.prog 5 #[.int .i64 n, .slice oa on oc, .int .i64 tr] W (Done W) := by
  have hlu := looksUses hU
  refine calls_after (X := fun _ _ _ => False) Tryd.func5 body ntmps fun a1 ha => ?_
  by_cases h1 : 1 ≤ n ∧ n ≤ 64
  rotate_left
  · refine Res.segV (F := []) (GF := []) (V := []) (GV := []) hostT _ (sqA n oa on oc tr) sqA1_n (sqA1_1 n oa on oc tr) (sqA1_2 n oa on oc tr) (Res.start) (hlu) no_old no_ros rfl ?_ (fun _ _ => rfl) (fun _ _ => rfl) ha fun ν j a2 w2 hfr2 hr2 => ?_
    · simp [sqA1_o]; omega
    · exact ⟨rfl, res_old hr2⟩
  obtain ⟨n, rfl⟩ : ∃ n' : Nat, n = n' := ⟨n.toNat, by omega⟩
  have hn0 : 0 < n := by omega
  have hn1 : n ≤ 64 := by omega
  refine Res.segV (F := []) (GF := []) (V := []) (GV := []) hostT _ (sqA n oa on oc tr) sqA2_n (sqA2_1 n oa on oc tr) (sqA2_2 n oa on oc tr) (Res.start) (hlu) no_old no_ros rfl ?_ (fun _ _ => rfl) (fun _ _ => rfl) ha fun ν j a2 w2 hfr2 hr2 => ?_
  · simp [sqA2_o]; omega
  obtain ⟨o, ho⟩ : ∃ o, o = sqA2_o n oa on oc tr ν j := ⟨_, rfl⟩
  have e0 : o.1 = .loop (cutAt Tryd.f5 7).1 (cutAt Tryd.f5 7).2 := by rw [ho]; rfl
  rw [← ho] at hfr2 hr2
  rw [← ho, e0]
  obtain ⟨c, cb, ws, e1, e2, e3⟩ : ∃ c cb ws, o.2.1 = sqK n oa on oc tr c 0 ∧ o.2.2.news = [(cb, 99, [.slice (some ⟨ws, 0, none⟩) n n]), (c, 78, [ptrV cb])] ∧ o.2.2.vecs = [wordsV ws n n n ((List.replicate n (0 : Int)).map u64V)] := by
    rw [ho]; exact ⟨_, _, _, rfl, rfl, rfl⟩
  have e4 : o.2.2.blocks = [] := by rw [ho]; rfl
  rw [e1] at hfr2
  rw [e2, e3, e4] at hr2
  have hres : Res W NoOld (snB c cb ws n ++ []) [] ([wordsV ws n n n ((List.replicate n (0 : Int)).map u64V)] ++ []) w2 := hr2.perm (List.Perm.swap ..) (.refl _)
  refine loop_after (i := 7) (by kernel_rfl) (fun d a w1 => ∃ (i : Nat) (xs : List Int), d = on - i ∧ i ≤ on ∧ xs.length = n ∧ Fr Tryd.f5.ntmps (sqK n oa on oc tr c i) a ∧ Res W NoOld (snB c cb ws n ++ []) [] ([wordsV ws n n n (xs.map u64V)] ++ []) w1) on ⟨0, _, rfl, Nat.zero_le _, by simp, hfr2, hres⟩ ?_
  clear hres hr2 hfr2 e1 e2 e3 e4 e0 ho o
  rintro d a3 w3 ⟨i, xs, rfl, hi, hx, hfr3, hr3⟩ Y hY _
  by_cases hlt : i < on
  · obtain ⟨⟨k, r, v, t⟩, hy⟩ : ∃ y, l[i]? = some y := ⟨_, List.getElem?_eq_getElem (by omega)⟩
    have he := hel i _ hy
    obtain ⟨ab, ao, rfl, _⟩ := hel i _ hy
    have hro := ro_elem hU he [(0, .int .u8 k), (1, .int .i64 r), (2, .int .u32 v)] (by simp [snop.Op.row]) (by simp)
    have hwi := wrap_next hlt hcap hmax
    by_cases hk : k = 1
    · cases hin : inR r n with
      | true =>
        refine Res.segV (V := [wordsV ws n n n (xs.map u64V)]) hostT _ (sqP c cb ws n xs ab ao on oc tr i k r v) sqP1_n (sqP1_1 c cb ws n xs ab ao on oc tr i k r v) (sqP1_2 c cb ws n xs ab ao on oc tr i k r v) (hr3) (hro) no_old no_ros rfl ?_ (fun _ _ => rfl) (fun _ _ => rfl) hfr3 fun ν j a4 w4 hfr4 hr4 => ?_
        · simp only [sqP1_o, all_u64]
          simp [hlt, hk, hin, Nat.blt_eq, hn0]
        · simp only [sqP1_o, hwi, map_valU, rowNow] at hfr4 hr4
          exact hY (on - (i + 1)) a4 w4 (by omega) ⟨i + 1, putAt xs r (wd (seeAt xs r) v), rfl, hlt, by simp [putAt, hx], hfr4, hr4⟩
      | false =>
        refine Res.segV (V := [wordsV ws n n n (xs.map u64V)]) hostT _ (sqP c cb ws n xs ab ao on oc tr i k r v) sqP2_n (sqP2_1 c cb ws n xs ab ao on oc tr i k r v) (sqP2_2 c cb ws n xs ab ao on oc tr i k r v) (hr3) (hro) no_old no_ros rfl ?_ (fun _ _ => rfl) (fun _ _ => rfl) hfr3 fun ν j a4 w4 hfr4 hr4 => ?_
        · simp only [sqP2_o, all_u64]
          simp [hlt, hk, hin, Nat.blt_eq, hn0]
        · simp only [sqP2_o, hwi] at hfr4 hr4
          exact hY (on - (i + 1)) a4 w4 (by omega) ⟨i + 1, xs, rfl, hlt, hx, hfr4, hr4⟩
    · refine Res.segV (V := [wordsV ws n n n (xs.map u64V)]) hostT _ (sqP c cb ws n xs ab ao on oc tr i k r v) sqP3_n (sqP3_1 c cb ws n xs ab ao on oc tr i k r v) (sqP3_2 c cb ws n xs ab ao on oc tr i k r v) (hr3) (hro) no_old no_ros rfl ?_ (fun _ _ => rfl) (fun _ _ => rfl) hfr3 fun ν j a4 w4 hfr4 hr4 => ?_
      · simp only [sqP3_o]
        simp [hlt, hk]
      · simp only [sqP3_o, hwi] at hfr4 hr4
        exact hY (on - (i + 1)) a4 w4 (by omega) ⟨i + 1, xs, rfl, hlt, hx, hfr4, hr4⟩
  have hd : ¬ (i : Int) < on := by omega
  by_cases ht1 : 1 ≤ tr
  rotate_left
  · refine Res.segV (F := snB c cb ws n) (V := []) hostT _ (sqX c cb ws n oa on oc tr i) sqX2_n (sqX2_1 c cb ws n oa on oc tr i) (sqX2_2 c cb ws n oa on oc tr i) (hr3) (Looks.nil W) no_old no_ros rfl ?_ (fun _ _ => rfl) (fun _ _ => rfl) hfr3 fun ν j a4 w4 hfr4 hr4 => ?_
    · simp only [sqX2_o]
      simp [hd, ht1]
      omega
    · exact ⟨rfl, res_old hr4⟩
  by_cases ht2 : tr ≤ 1024
  rotate_left
  · refine Res.segV (F := snB c cb ws n) (V := []) hostT _ (sqX c cb ws n oa on oc tr i) sqX3_n (sqX3_1 c cb ws n oa on oc tr i) (sqX3_2 c cb ws n oa on oc tr i) (hr3) (Looks.nil W) no_old no_ros rfl ?_ (fun _ _ => rfl) (fun _ _ => rfl) hfr3 fun ν j a4 w4 hfr4 hr4 => ?_
    · simp only [sqX3_o]
      simp [hd, ht1, ht2]
      omega
    · exact ⟨rfl, res_old hr4⟩
  refine Res.segV (F := snB c cb ws n) (V := []) hostT _ (sqX c cb ws n oa on oc tr i) sqX1_n (sqX1_1 c cb ws n oa on oc tr i) (sqX1_2 c cb ws n oa on oc tr i) (hr3) (Looks.nil W) no_old no_ros rfl ?_ (fun _ _ => rfl) (fun _ _ => rfl) hfr3 fun ν j a4 w4 hfr4 hr4 => ?_
  · simp only [sqX1_o]
    simp [hd, ht1, ht2]
    try omega
  obtain ⟨p, e1, e2, e3, e4⟩ : ∃ p, (sqX1_o c cb ws n oa on oc tr i ν j).2.1 = sqL n tr c p 0 ∧ (sqX1_o c cb ws n oa on oc tr i ν j).2.2.news = [(p, 82, pdV c 3 0 0 tr false 0 none 0 0 none 0 0 false false 0 none 0 0)] ∧ (sqX1_o c cb ws n oa on oc tr i ν j).2.2.blocks = snB c cb ws n ∧ (sqX1_o c cb ws n oa on oc tr i ν j).2.2.vecs = [] := ⟨_, rfl, rfl, rfl, rfl⟩
  rw [e1] at hfr4
  rw [e2, e3, e4] at hr4
  obtain ⟨u0, hu0⟩ : ∃ u0 : SP, u0 = ⟨⟨3, 0, 0, tr, false, 0, [], [], false, [], false, 0⟩, p, none, 0, none, 0, none, 0⟩ := ⟨_, rfl⟩
  have hp0 : u0.p = p := by rw [hu0]
  have hg0 : Sn.Good n u0 := by
    rw [hu0]
    exact ⟨by simp [Sn.right, ht1, ht2], rfl, rfl, hn0, fun h => absurd rfl h, fun _ => rfl, fun _ => ⟨by simp, by simp only; omega, .inl ⟨rfl, rfl, rfl, rfl⟩⟩⟩
  have hq0 : Sn.Q n xs tr 0 u0.d := by rw [hu0]; exact ⟨rfl, rfl, rfl, .inl ⟨hn0, rfl, rfl, by simp⟩⟩
  have hr5 : Res W NoOld ((snB c cb ws n ++ blk c u0) ++ []) [] ([wordsV ws n n n (xs.map u64V)] ++ (vcs u0 ++ [])) w4 := by
    have := res_nil (res_nil (res_nil hr4 63 2) 39 1) 39 1
    rw [hu0]
    refine this.perm ?_ (List.perm_middle (a := wordsV ws n n n (xs.map u64V)) (l₁ := vcs ⟨⟨3, 0, 0, tr, false, 0, [], [], false, [], false, 0⟩, p, none, 0, none, 0, none, 0⟩) (l₂ := []))
    rw [List.append_nil]
    exact (List.perm_append_comm (l₁ := [_]))
  have hJ : Sn.J n tr ≤ 2 * n ∧ 0 < Sn.J n tr := by unfold Sn.J; split <;> omega
  refine loop_after (i := 15) (by kernel_rfl) (fun d a w1 => ∃ (u : SP) (j : Nat), d = 2 * n + 1 - j ∧ u.p = p ∧ ((Sn.Good n u ∧ Sn.Q n xs tr j u.d ∧ j < Sn.J n tr) ∨ (Sn.QE xs tr u.d ∧ j = Sn.J n tr)) ∧ Fr Tryd.f5.ntmps (sqL n tr c p j) a ∧ Res W NoOld ((snB c cb ws n ++ blk c u) ++ []) [] ([wordsV ws n n n (xs.map u64V)] ++ (vcs u ++ [])) w1) (2 * n + 1) ⟨u0, 0, rfl, hp0, .inl ⟨hg0, hq0, hJ.2⟩, hfr4, hr5⟩ ?_
  clear hr5 hq0 hg0 hp0 hu0 u0 hr4 hfr4 e1 e2 e3 e4 hr3 hfr3
  rintro d a5 w5 ⟨u, jj, rfl, rfl, hQ, hfr5, hr5⟩ Y1 hY1 _
  have hF : Res W NoOld (blk c u ++ (snB c cb ws n ++ [])) [] ([] ++ ([wordsV ws n n n (xs.map u64V)] ++ (vcs u ++ []))) w5 := hr5.perm pS (.refl _)
  have hw2 : IntKind.i64.wrap (2 * (n : Int)) = ((2 * n : Nat) : Int) := by rw [wrap_i64 (by omega) (by omega)]; simp
  rcases hQ with ⟨hg, hQ, hjj⟩ | ⟨⟨hk, htr, hov, hans, hcl, hco⟩, hjj⟩
  · have hov := hg.over
    refine Res.segV (F := blk c u) (V := []) hostT _ (sqR c n u.p tr jj u.d.k u.d.r u.d.v u.d.tr u.d.ld u.d.saw u.wa u.d.was.length u.wc u.na u.d.now.length u.nc u.d.over u.d.clean u.d.coll u.ra u.d.ans.length u.rc) sqR1_n (sqR1_1 c n u.p tr jj u.d.k u.d.r u.d.v u.d.tr u.d.ld u.d.saw u.wa u.d.was.length u.wc u.na u.d.now.length u.nc u.d.over u.d.clean u.d.coll u.ra u.d.ans.length u.rc) (sqR1_2 c n u.p tr jj u.d.k u.d.r u.d.v u.d.tr u.d.ld u.d.saw u.wa u.d.was.length u.wc u.na u.d.now.length u.nc u.d.over u.d.clean u.d.coll u.ra u.d.ans.length u.rc) (hF) (Looks.nil W) no_old no_ros rfl ?_ (fun _ _ => rfl) (fun _ _ => rfl) hfr5 fun ν j a6 w6 hfr6 hr6 => ?_
    · simp only [sqR1_o, hw2, hov]
      simp
      omega
    · have hr6' := (show Res W NoOld (blk c u ++ (snB c cb ws n ++ [])) [] _ w6 from hr6).perm (F' := (snB c cb ws n ++ blk c u) ++ []) pS.symm (.refl _)
      refine (snst.step hg hx hn1 hlu (fun _ _ => id) (fun b h => h.elim) hr6').mono ?_
      rintro e w7 ⟨u', hp', hd', hg', rfl, hr7⟩
      refine ⟨_, rfl, ?_⟩
      obtain ⟨hx1, hx2⟩ := Sn.q_step hx hn0 ht1 hQ
      rw [hx1] at hr7
      have hfr7 := (hfr6.put (d := 90) (v := .tuple #[(nxt n xs u.d).2.2, .bool (nxt n xs u.d).2.1.over]) (by decide +kernel) (sqL n tr c u.p jj) (fun x hx => hx) (by simp [sqL])).less (fun x hx => List.mem_cons_of_mem _ hx)
      have hwj : IntKind.i64.wrap ((jj : Int) + 1) = ((jj + 1 : Nat) : Int) := by rw [wrap_i64 (by omega) (by omega)]; simp
      refine Res.segV (F := []) (V := []) hostT _ (sqS c n u.p tr jj) sqS1_n (sqS1_1 c n u.p tr jj) (sqS1_2 c n u.p tr jj) ((show Res W NoOld ([] ++ _) [] ([] ++ _) w7 from hr7)) (Looks.nil W) no_old no_ros rfl ?_ (fun _ _ => rfl) (fun _ _ => rfl) hfr7 fun ν j a8 w8 hfr8 hr8 => ?_
      · simp [sqS1_o]
      · simp only [sqS1_o, hwj] at hfr8
        refine hY1 (2 * n + 1 - (jj + 1)) a8 w8 (by omega) ⟨u', jj + 1, rfl, hp', ?_, hfr8, hr8⟩
        rw [hd']
        rcases hx2 with ⟨h3, h⟩ | ⟨h3, h⟩
        · exact .inl ⟨hg' (by rw [hd']; exact h.2.2.1), h, h3⟩
        · exact .inr ⟨h, h3⟩
  · obtain ⟨rb, hrb⟩ := (res_len hr5 (e := 63) (s := 2) (n := u.d.ans.length) (c := u.rc) (so := u.ra) (xs := u.d.ans.flatMap regR) (List.mem_cons_of_mem _ (List.mem_cons_of_mem _ (List.mem_cons_of_mem _ (List.mem_cons_self ..))))).2.2 (by rw [hans, hx]; exact hn0)
    have hra : u.d.ans.length = n := by rw [hans, hx]
    have hF2 : Res W NoOld (blk c u ++ (snB c cb ws n ++ [])) [] ([rV u.ra u.rc u.d.ans] ++ ([wordsV ws n n n (xs.map u64V), uV u.na u.nc u.d.now, uV u.wa u.wc u.d.was] ++ [])) w5 := hF.perm (.refl _) (List.perm_middle (a := rV u.ra u.rc u.d.ans) (l₁ := [wordsV ws n n n (xs.map u64V), uV u.na u.nc u.d.now, uV u.wa u.wc u.d.was]) (l₂ := []))
    have hblk : blk c u = [(u.p, 82, pdV c u.d.k u.d.r u.d.v u.d.tr u.d.ld u.d.saw u.wa u.d.was.length u.wc u.na u.d.now.length u.nc u.d.over u.d.clean u.d.coll (some ⟨rb, 0, none⟩) n u.rc)] := by rw [← hrb, ← hra]; rfl
    have hrV : rV u.ra u.rc u.d.ans = regsV (some ⟨rb, 0, none⟩) n u.rc (xs.flatMap regR) := by rw [hrb, rV, hra, hans]
    rw [hblk, hrV] at hF2
    refine Res.segV (V := [regsV (some ⟨rb, 0, none⟩) n u.rc (xs.flatMap regR)]) hostT _ (sqE c n u.p tr jj u.d.k u.d.r u.d.v u.d.tr u.d.ld u.d.saw u.wa u.d.was.length u.wc u.na u.d.now.length u.nc u.d.over u.d.clean u.d.coll rb n u.rc (xs.flatMap regR)) sqE1_n (sqE1_1 c n u.p tr jj u.d.k u.d.r u.d.v u.d.tr u.d.ld u.d.saw u.wa u.d.was.length u.wc u.na u.d.now.length u.nc u.d.over u.d.clean u.d.coll rb n u.rc (xs.flatMap regR)) (sqE1_2 c n u.p tr jj u.d.k u.d.r u.d.v u.d.tr u.d.ld u.d.saw u.wa u.d.was.length u.wc u.na u.d.now.length u.nc u.d.over u.d.clean u.d.coll rb n u.rc (xs.flatMap regR)) (hF2) (Looks.nil W) no_old no_ros rfl ?_ (fun _ _ => rfl) (fun _ _ => rfl) hfr5 fun ν j a6 w6 hfr6 hr6 => ?_
    · simp only [sqE1_o, all_one, hov]
      simp [Nat.blt_eq, Nat.ble_eq, hn0]
      omega
    obtain ⟨o, ho⟩ : ∃ o, o = sqE1_o c n u.p tr jj u.d.k u.d.r u.d.v u.d.tr u.d.ld u.d.saw u.wa u.d.was.length u.wc u.na u.d.now.length u.nc u.d.over u.d.clean u.d.coll rb n u.rc (xs.flatMap regR) ν j := ⟨_, rfl⟩
    rw [← ho] at hfr6 hr6
    rw [← ho]
    obtain ⟨q, g1, c1, q0, q1, q2, q3, q4⟩ : ∃ q g1 c1, o.1 = .call 25 #[ptrV c, .int .i64 tr] (some 98) (regAt Tryd.f5 19).1 ((regAt Tryd.f5 19).1.toList.drop 3) (regAt Tryd.f5 19).2 ∧ o.2.1 = [(0, .int .i64 n), (2, .int .i64 tr), (7, ptrV c), (11, .int .i64 jj), (12, ptrV q)] ∧ o.2.2.news = [(q, 43, [.slice (some ⟨g1, 0, none⟩) n c1, .bool (decide (tr ≥ 2)), .int .i64 (if tr ≥ 2 then 2 else 1)])] ∧ (∃ B, o.2.2.blocks = B) ∧ o.2.2.vecs = [regsV (some ⟨rb, 0, none⟩) n u.rc (xs.flatMap regR), regsV (some ⟨g1, 0, none⟩) n c1 (xs.flatMap regR)] := by
      rw [ho]
      simp only [sqE1_o, hcl, hco]
      exact ⟨_, _, _, rfl, rfl, rfl, ⟨_, rfl⟩, rfl⟩
    obtain ⟨B, q3⟩ := q3
    rw [q1] at hfr6
    rw [q2, q3, q4] at hr6
    rw [q0]
    have hr7 : Res W NoOld (snB c cb ws n ++ [(q, 43, [.slice (some ⟨g1, 0, none⟩) n c1, .bool (decide (tr ≥ 2)), .int .i64 (if tr ≥ 2 then 2 else 1)])]) [] ([wordsV ws n n n (xs.map u64V)] ++ [regsV (some ⟨g1, 0, none⟩) n c1 (xs.flatMap regR)]) w6 := by
      have h1 := hr6.perm (F' := B ++ (snB c cb ws n ++ [(q, 43, [.slice (some ⟨g1, 0, none⟩) n c1, .bool (decide (tr ≥ 2)), .int .i64 (if tr ≥ 2 then 2 else 1)])])) (V' := [wordsV ws n n n (xs.map u64V), regsV (some ⟨g1, 0, none⟩) n c1 (xs.flatMap regR), uV u.na u.nc u.d.now, uV u.wa u.wc u.d.was, regsV (some ⟨rb, 0, none⟩) n u.rc (xs.flatMap regR)])
        ((List.perm_append_comm (l₁ := [_])).trans (by rw [List.append_nil, List.append_assoc]))
        ((List.perm_middle (a := regsV (some ⟨rb, 0, none⟩) n u.rc (xs.flatMap regR)) (l₁ := [regsV (some ⟨g1, 0, none⟩) n c1 (xs.flatMap regR), wordsV ws n n n (xs.map u64V), uV u.na u.nc u.d.now, uV u.wa u.wc u.d.was]) (l₂ := [])).symm.trans (.swap ..))
      exact h1.less (List.sublist_append_right B _) (.refl _) (.cons_cons _ (.cons_cons _ (.cons _ (.cons _ (.cons _ (.refl _))))))
    by_cases h2 : 2 ≤ tr
    · have hne1 : ¬ tr = 1 := by omega
      rw [decide_eq_true (show tr ≥ 2 from h2), if_pos (show tr ≥ 2 from h2)] at hr7
      have hj2 : jj = 2 * n := by rw [hjj]; unfold Sn.J; rw [if_pos h2]
      subst hj2
      refine (snst.scanOk hx hn0 hn1 hlu (fun _ _ => id) (fun b h => h.elim) h2 ht2 hr7).mono ?_
      rintro e w8 ⟨g2, c2, rfl, hr8⟩
      refine ⟨_, rfl, ?_⟩
      have hfr8 := hfr6.put (d := 98) (v := .tuple #[.slice (some ⟨g2, 0, none⟩) n c2, .int .i64 0]) (by decide +kernel) [(0, .int .i64 n), (2, .int .i64 tr), (7, ptrV c), (11, .int .i64 (2 * n : Nat)), (12, ptrV q)] (fun x hx => hx) (by simp)
      have hr8' := hr8.perm (F' := (snB c cb ws n ++ [(q, 43, [.slice (some ⟨g1, 0, none⟩) n c1, .bool true, .int .i64 2])]) ++ []) (V' := [wordsV ws n n n (xs.map u64V), regsV (some ⟨g1, 0, none⟩) n c1 (xs.flatMap regR), regsV (some ⟨g2, 0, none⟩) n c2 (xs.flatMap regR)] ++ []) (.of_eq (by simp)) (by rw [List.append_nil]; exact List.Perm.cons _ (List.Perm.swap ..))
      refine Res.segV (F := snB c cb ws n ++ [(q, 43, [.slice (some ⟨g1, 0, none⟩) n c1, .bool true, .int .i64 2])]) (V := [wordsV ws n n n (xs.map u64V), regsV (some ⟨g1, 0, none⟩) n c1 (xs.flatMap regR), regsV (some ⟨g2, 0, none⟩) n c2 (xs.flatMap regR)]) hostT _ (sqG c cb ws n xs tr (2 * n) q g1 c1 g2 c2) sqG1_n (sqG1_1 c cb ws n xs tr (2 * n) q g1 c1 g2 c2) (sqG1_2 c cb ws n xs tr (2 * n) q g1 c1 g2 c2) (hr8') (Looks.nil W) no_old no_ros rfl ?_ (fun _ _ => rfl) (fun _ _ => rfl) hfr8 fun ν j a9 w9 hfr9 hr9 => ?_
      · simp only [sqG1_o, all_u64, map_valU, regs_all, hw2]
        simp [hne1, Nat.blt_eq, Nat.ble_eq, hn0]
        omega
      · refine ⟨?_, res_old hr9⟩
        simp only [sqG1_o, map_valU]
        simp
    · obtain rfl : tr = 1 := by omega
      rw [decide_eq_false (show ¬ (1 : Int) ≥ 2 by omega), if_neg (show ¬ (1 : Int) ≥ 2 by omega)] at hr7
      have hj2 : jj = n := by rw [hjj]; unfold Sn.J; rw [if_neg (by omega)]
      subst hj2
      refine (snst.scanOne hx hn0 hn1 hlu (fun _ _ => id) (fun b h => h.elim) hr7).mono ?_
      rintro e w8 ⟨rfl, hr8⟩
      refine ⟨_, rfl, ?_⟩
      have hfr8 := hfr6.put (d := 98) (v := .tuple #[.slice none 0 0, .int .i64 140]) (by decide +kernel) [(0, .int .i64 jj), (2, .int .i64 1), (7, ptrV c), (11, .int .i64 jj), (12, ptrV q)] (fun x hx => hx) (by simp)
      have hr8' := hr8.perm (F' := (snB c cb ws jj ++ [(q, 43, [.slice (some ⟨g1, 0, none⟩) jj c1, .bool false, .int .i64 1])]) ++ []) (V' := [wordsV ws jj jj jj (xs.map u64V), regsV (some ⟨g1, 0, none⟩) jj c1 (xs.flatMap regR)] ++ []) (.of_eq (by simp)) (.refl _)
      refine Res.segV (F := snB c cb ws jj ++ [(q, 43, [.slice (some ⟨g1, 0, none⟩) jj c1, .bool false, .int .i64 1])]) (V := [wordsV ws jj jj jj (xs.map u64V), regsV (some ⟨g1, 0, none⟩) jj c1 (xs.flatMap regR)]) hostT _ (sqF c cb ws jj xs 1 jj q g1 c1 false 1 140 none 0 0) sqF1_n (sqF1_1 c cb ws jj xs 1 jj q g1 c1 false 1 140 none 0 0) (sqF1_2 c cb ws jj xs 1 jj q g1 c1 false 1 140 none 0 0) (hr8') (Looks.nil W) no_old no_ros rfl ?_ (fun _ _ => rfl) (fun _ _ => rfl) hfr8 fun ν j a9 w9 hfr9 hr9 => ?_
      · simp only [sqF1_o, all_u64, map_valU, regs_all]
        simp [Nat.blt_eq, Nat.ble_eq, hn0]
        omega
      · exact ⟨rfl, res_old hr9⟩
end Go.Proofs.YtmihblocomnfjaaDoor.squiet
