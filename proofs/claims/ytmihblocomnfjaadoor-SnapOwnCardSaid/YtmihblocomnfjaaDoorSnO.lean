/- SnapOwn: the walk whole. -/
import Derived.Test.YtmihblocomnfjaaDoorSnOB
import Derived.Test.YtmihblocomnfjaaDoorSnOp
set_option linter.unusedSimpArgs false
set_option linter.unusedVariables false
namespace Go.Proofs.YtmihblocomnfjaaDoor.sown
open Go Sy Close
set_option maxRecDepth 100000
open Sn (regR SD SP nxt did wd num vl)
open snst (all_one)
theorem body : Tryd.f7.body = some (codeOf Tryd.f7) := by kernel_rfl
theorem ntmps : 2 ≤ Tryd.f7.ntmps := by decide +kernel
theorem set_u32 (xs : List Int) (i : Nat) (z : Int) : (xs.map u32V).set i (.int .u32 z) = (xs.set i z).map u32V := by rw [List.map_set]; rfl
theorem calls {W : World} (n : Int) {oa : Option Addr} {on oc : Nat} {l : List snop.Op} (hl : l.length = on) (hcap : on ≤ oc) (hmax : oc ≤ maxLen) (hel : ∀ i y, l[i]? = some y → Elem W oa 4 i y.row) (hU : UsesAt W) :
    Calls Tryd.prog 7 #[.int .i64 n, .slice oa on oc] W (Done W) := by
  have hlu := looksUses hU
  refine calls_after (X := fun _ _ _ => False) Tryd.func7 body ntmps fun a1 ha => ?_
  by_cases h1 : 1 ≤ n ∧ n ≤ 64
  rotate_left
  · refine Res.segV (F := []) (GF := []) (V := []) (GV := []) hostT _ (soA n oa on oc) soA1_n (soA1_1 n oa on oc) (soA1_2 n oa on oc) (Res.start) (hlu) no_old no_ros rfl ?_ (fun _ _ => rfl) (fun _ _ => rfl) ha fun ν j a2 w2 hfr2 hr2 => ?_
    · simp [soA1_o]; omega
    · exact ⟨rfl, res_old hr2⟩
  obtain ⟨n, rfl⟩ : ∃ n' : Nat, n = n' := ⟨n.toNat, by omega⟩
  have hn0 : 0 < n := by omega
  have hn1 : n ≤ 64 := by omega
  refine Res.segV (F := []) (GF := []) (V := []) (GV := []) hostT _ (soA n oa on oc) soA2_n (soA2_1 n oa on oc) (soA2_2 n oa on oc) (Res.start) (hlu) no_old no_ros rfl ?_ (fun _ _ => rfl) (fun _ _ => rfl) ha fun ν j a2 w2 hfr2 hr2 => ?_
  · simp [soA2_o]; omega
  obtain ⟨o, ho⟩ : ∃ o, o = soA2_o n oa on oc ν j := ⟨_, rfl⟩
  have e0 : o.1 = .loop (cutAt Tryd.f7 7).1 (cutAt Tryd.f7 7).2 := by rw [ho]; rfl
  rw [← ho] at hfr2 hr2
  rw [← ho, e0]
  obtain ⟨c, cb, ws, e1, e2, e3⟩ : ∃ c cb ws, o.2.1 = soK oa on oc c 0 ∧ o.2.2.news = [(cb, 99, [.slice (some ⟨ws, 0, none⟩) n n]), (c, 78, [ptrV cb])] ∧ o.2.2.vecs = [wordsV ws n n n ((List.replicate n (0 : Int)).map u64V)] := by
    rw [ho]; exact ⟨_, _, _, rfl, rfl, rfl⟩
  have e4 : o.2.2.blocks = [] := by rw [ho]; rfl
  rw [e1] at hfr2
  rw [e2, e3, e4] at hr2
  have hres : Res W NoOld (snB c cb ws n ++ []) [] ([wordsV ws n n n ((List.replicate n (0 : Int)).map u64V)] ++ []) w2 := hr2.perm (List.Perm.swap ..) (.refl _)
  refine loop_after (i := 7) (by kernel_rfl) (fun d a w1 => ∃ (i : Nat) (xs : List Int), d = on - i ∧ i ≤ on ∧ xs.length = n ∧ Fr Tryd.f7.ntmps (soK oa on oc c i) a ∧ Res W NoOld (snB c cb ws n ++ []) [] ([wordsV ws n n n (xs.map u64V)] ++ []) w1) on ⟨0, _, rfl, Nat.zero_le _, by simp, hfr2, hres⟩ ?_
  clear hres hr2 hfr2 e1 e2 e3 e4 e0 ho o
  rintro d a3 w3 ⟨i, xs, rfl, hi, hx, hfr3, hr3⟩ Y hY _
  by_cases hlt : i < on
  · obtain ⟨⟨k, r, v, t⟩, hy⟩ : ∃ y, l[i]? = some y := ⟨_, List.getElem?_eq_getElem (by omega)⟩
    have he := hel i _ hy
    obtain ⟨ab, ao, rfl, _⟩ := hel i _ hy
    have hro := ro_elem hU he [(1, .int .i64 r), (2, .int .u32 v)] (by simp [snop.Op.row]) (by simp)
    have hwi := wrap_next hlt hcap hmax
    cases hin : inR r n with
    | true =>
      refine Res.segV (V := [wordsV ws n n n (xs.map u64V)]) hostT _ (soP c cb ws n xs ab ao on oc i r v) soP1_n (soP1_1 c cb ws n xs ab ao on oc i r v) (soP1_2 c cb ws n xs ab ao on oc i r v) (hr3) (hro) no_old no_ros rfl ?_ (fun _ _ => rfl) (fun _ _ => rfl) hfr3 fun ν j a4 w4 hfr4 hr4 => ?_
      · simp only [soP1_o, all_u64]
        simp [hlt, hin, Nat.blt_eq, hn0]
      · simp only [soP1_o, hwi, map_valU, rowNow] at hfr4 hr4
        exact hY (on - (i + 1)) a4 w4 (by omega) ⟨i + 1, putAt xs r (wd (seeAt xs r) v), rfl, hlt, by simp [putAt, hx], hfr4, hr4⟩
    | false =>
      refine Res.segV (V := [wordsV ws n n n (xs.map u64V)]) hostT _ (soP c cb ws n xs ab ao on oc i r v) soP2_n (soP2_1 c cb ws n xs ab ao on oc i r v) (soP2_2 c cb ws n xs ab ao on oc i r v) (hr3) (hro) no_old no_ros rfl ?_ (fun _ _ => rfl) (fun _ _ => rfl) hfr3 fun ν j a4 w4 hfr4 hr4 => ?_
      · simp only [soP2_o, all_u64]
        simp [hlt, hin, Nat.blt_eq, hn0]
      · simp only [soP2_o, hwi] at hfr4 hr4
        exact hY (on - (i + 1)) a4 w4 (by omega) ⟨i + 1, xs, rfl, hlt, hx, hfr4, hr4⟩
  have hd : ¬ (i : Int) < on := by omega
  have hlr : (xs.flatMap regR).length = n * 2 := by rw [regs_nums, List.length_map, nums_len, hx]
  refine Res.segV (V := [wordsV ws n n n (xs.map u64V)]) hostT _ (soX c cb ws n xs oa on oc i) soX1_n (soX1_1 c cb ws n xs oa on oc i) (soX1_2 c cb ws n xs oa on oc i) (hr3) (Looks.nil W) no_old no_ros rfl ?_ (fun _ _ => rfl) (fun _ _ => rfl) hfr3 fun ν j a4 w4 hfr4 hr4 => ?_
  · simp only [soX1_o, all_u64, map_valU, all_one, hlr]
    simp [hd, Nat.blt_eq, Nat.ble_eq, hn0, maxLen]
    exact ⟨by omega, decide_eq_true (by omega), by omega⟩
  obtain ⟨o, ho⟩ : ∃ o, o = soX1_o c cb ws n xs oa on oc i ν j := ⟨_, rfl⟩
  rw [← ho] at hfr4 hr4
  rw [← ho]
  obtain ⟨ga, ca, gb, cb', gk, ck, q0, q1, q2, q3, q4⟩ : ∃ ga ca gb cb' gk ck, o.1 = .call 25 #[ptrV c, .int .i64 2] (some 58) (regAt Tryd.f7 13).1 ((regAt Tryd.f7 13).1.toList.drop 2) (regAt Tryd.f7 13).2 ∧ o.2.1 = [(5, ptrV c), (8, .slice (some ⟨ga, 0, none⟩) n ca), (9, .slice (some ⟨gb, 0, none⟩) n cb'), (10, .slice (some ⟨gk, 0, none⟩) n ck)] ∧ o.2.2.news = [] ∧ o.2.2.blocks = snB c cb ws n ∧ o.2.2.vecs = [wordsV ws n n n (xs.map u64V), regsV (some ⟨ga, 0, none⟩) n ca (xs.flatMap regR), regsV (some ⟨gb, 0, none⟩) n cb' (xs.flatMap regR), regsV (some ⟨gk, 0, none⟩) n ck (xs.flatMap regR)] := by
    rw [ho]
    simp only [soX1_o, map_valU]
    exact ⟨_, _, _, _, _, _, rfl, rfl, trivial, rfl, rfl⟩
  rw [q1] at hfr4
  rw [q2, q3, q4] at hr4
  rw [q0]
  refine (snst.scanOk (F := []) (V := [regsV (some ⟨ga, 0, none⟩) n ca (xs.flatMap regR), regsV (some ⟨gb, 0, none⟩) n cb' (xs.flatMap regR), regsV (some ⟨gk, 0, none⟩) n ck (xs.flatMap regR)]) hx hn0 hn1 hlu (fun _ _ => id) (fun b h => h.elim) (by omega) (by omega) hr4).mono ?_
  rintro e w5 ⟨gx, cx, rfl, hr5⟩
  refine ⟨_, rfl, ?_⟩
  have hfr5 := hfr4.put (d := 58) (v := .tuple #[.slice (some ⟨gx, 0, none⟩) n cx, .int .i64 0]) (by decide +kernel) [(5, ptrV c), (8, .slice (some ⟨ga, 0, none⟩) n ca), (9, .slice (some ⟨gb, 0, none⟩) n cb'), (10, .slice (some ⟨gk, 0, none⟩) n ck)] (fun x hx => hx) (by simp)
  refine Res.segV (F := []) (V := []) hostT _ (soY n c ga ca gb cb' gk ck gx cx) soY1_n (soY1_1 n c ga ca gb cb' gk ck gx cx) (soY1_2 n c ga ca gb cb' gk ck gx cx) (hr5) (Looks.nil W) no_old no_ros rfl ?_ (fun _ _ => rfl) (fun _ _ => rfl) hfr5 fun ν j a6 w6 hfr6 hr6 => ?_
  · simp [soY1_o]
  obtain ⟨K, hK⟩ : ∃ K : List Vec, K = [wordsV ws n n n (xs.map u64V), regsV (some ⟨gb, 0, none⟩) n cb' (xs.flatMap regR), regsV (some ⟨gk, 0, none⟩) n ck (xs.flatMap regR)] := ⟨_, rfl⟩
  have hr7 : Res W NoOld ([] ++ (snB c cb ws n ++ [])) [] ([nregs ga n ca (nums xs)] ++ (nregs gx n cx (nums xs) :: K)) w6 := by
    rw [hK]
    unfold nregs
    rw [← regs_nums]
    refine (show Res W NoOld ([] ++ (snB c cb ws n ++ [])) [] [wordsV ws n n n (xs.map u64V), regsV (some ⟨gx, 0, none⟩) n cx (xs.flatMap regR), regsV (some ⟨ga, 0, none⟩) n ca (xs.flatMap regR), regsV (some ⟨gb, 0, none⟩) n cb' (xs.flatMap regR), regsV (some ⟨gk, 0, none⟩) n ck (xs.flatMap regR)] w6 from hr6).perm (.refl _) ?_
    exact (List.perm_middle (a := regsV (some ⟨ga, 0, none⟩) n ca (xs.flatMap regR)) (l₁ := [wordsV ws n n n (xs.map u64V), regsV (some ⟨gx, 0, none⟩) n cx (xs.flatMap regR)]) (l₂ := _)).trans (.cons _ (.swap ..))
  have hfr7 : Fr Tryd.f7.ntmps (soL n c ga ca gb cb' gk ck gx cx 0) a6 := hfr6
  refine loop_after (i := 15) (by kernel_rfl) (fun d a w1 => ∃ (i : Nat) (ys : List Int), d = n - i ∧ i ≤ n ∧ ys.length = n * 2 ∧ Fr Tryd.f7.ntmps (soL n c ga ca gb cb' gk ck gx cx i) a ∧ Res W NoOld ([] ++ (snB c cb ws n ++ [])) [] ([nregs ga n ca ys] ++ (nregs gx n cx (nums xs) :: K)) w1) n ⟨0, _, rfl, Nat.zero_le _, by rw [nums_len, hx], hfr7, hr7⟩ ?_
  clear hr7 hfr7 hr6 hfr6 hr5 hfr5 hr4 hfr4 q0 q1 q2 q3 q4 ho o hr3 hfr3
  rintro d a3 w3 ⟨i, ys, rfl, hi, hyl, hfr3, hr3⟩ Y1 hY1 _
  by_cases hlt2 : i < n
  · have hwi : IntKind.i64.wrap ((i : Int) + 1) = ((i + 1 : Nat) : Int) := by rw [wrap_i64 (by omega) (by omega)]; simp
    refine Res.segV (F := []) (V := [nregs ga n ca ys]) hostT _ (soW n c ga ca gb cb' gk ck gx cx i ys) soW1_n (soW1_1 n c ga ca gb cb' gk ck gx cx i ys) (soW1_2 n c ga ca gb cb' gk ck gx cx i ys) (hr3) (Looks.nil W) no_old no_ros rfl ?_ (fun _ _ => rfl) (fun _ _ => rfl) hfr3 fun ν j a4 w4 hfr4 hr4 => ?_
    · simp only [soW1_o, set_u32, isK_u64, valI_u64, set_u64, map_valU, all_u64, isK_i64, valI_i64, set_i64, isK_bool, valB_bool, set_bool, sadd_eq, smul_eq, Nat.mul_one, Nat.zero_add, Nat.add_zero, List.length_map, Int.toNat_natCast]
      simp [hlt2, Nat.blt_eq, hyl]
      omega
    · simp only [soW1_o, hwi] at hfr4
      have hv : (soW1_o n c ga ca gb cb' gk ck gx cx i ys ν j).2.2.vecs = [nregs ga n ca ((ys.set (i * 2) 9).set (i * 2 + 1) 9)] := by
        simp only [soW1_o, set_u32, sadd_eq, smul_eq, Int.toNat_natCast, Nat.zero_add]
        rfl
      rw [hv] at hr4
      exact hY1 (n - (i + 1)) a4 w4 (by omega) ⟨i + 1, _, rfl, hlt2, by simp [hyl], hfr4, hr4⟩
  have hd2 : ¬ (i : Int) < n := by omega
  refine Res.segV (F := []) (V := []) hostT _ (soV n c ga ca gb cb' gk ck gx cx i) soV1_n (soV1_1 n c ga ca gb cb' gk ck gx cx i) (soV1_2 n c ga ca gb cb' gk ck gx cx i) (hr3) (Looks.nil W) no_old no_ros rfl ?_ (fun _ _ => rfl) (fun _ _ => rfl) hfr3 fun ν j a4 w4 hfr4 hr4 => ?_
  · simp [soV1_o]; omega
  have hfr5 : Fr Tryd.f7.ntmps (soM n c ga ca gb cb' gk ck gx cx 0) a4 := hfr4
  have hr5 : Res W NoOld ([] ++ (snB c cb ws n ++ [])) [] ([nregs gx n cx (nums xs)] ++ (nregs ga n ca ys :: K)) w4 := (show Res W NoOld ([] ++ (snB c cb ws n ++ [])) [] (nregs ga n ca ys :: nregs gx n cx (nums xs) :: K) w4 from hr4).perm (.refl _) (.swap ..)
  refine loop_after (i := 19) (by kernel_rfl) (fun d a w1 => ∃ (i : Nat) (zs : List Int), d = n - i ∧ i ≤ n ∧ zs.length = n * 2 ∧ Fr Tryd.f7.ntmps (soM n c ga ca gb cb' gk ck gx cx i) a ∧ Res W NoOld ([] ++ (snB c cb ws n ++ [])) [] ([nregs gx n cx zs] ++ (nregs ga n ca ys :: K)) w1) n ⟨0, _, rfl, Nat.zero_le _, by rw [nums_len, hx], hfr5, hr5⟩ ?_
  clear hr5 hfr5 hr4 hfr4 hr3 hfr3
  rintro d a3 w3 ⟨i, zs, rfl, hi, hzl, hfr3, hr3⟩ Y2 hY2 _
  by_cases hlt3 : i < n
  · have hwi : IntKind.i64.wrap ((i : Int) + 1) = ((i + 1 : Nat) : Int) := by rw [wrap_i64 (by omega) (by omega)]; simp
    refine Res.segV (F := []) (V := [nregs gx n cx zs]) hostT _ (soU n c ga ca gb cb' gk ck gx cx i zs) soU1_n (soU1_1 n c ga ca gb cb' gk ck gx cx i zs) (soU1_2 n c ga ca gb cb' gk ck gx cx i zs) (hr3) (Looks.nil W) no_old no_ros rfl ?_ (fun _ _ => rfl) (fun _ _ => rfl) hfr3 fun ν j a4 w4 hfr4 hr4 => ?_
    · simp only [soU1_o, set_u32, isK_u64, valI_u64, set_u64, map_valU, all_u64, isK_i64, valI_i64, set_i64, isK_bool, valB_bool, set_bool, sadd_eq, smul_eq, Nat.mul_one, Nat.zero_add, Nat.add_zero, List.length_map, Int.toNat_natCast]
      simp [hlt3, Nat.blt_eq, hzl]
      omega
    · simp only [soU1_o, hwi] at hfr4
      have hv : (soU1_o n c ga ca gb cb' gk ck gx cx i zs ν j).2.2.vecs = [nregs gx n cx ((zs.set (i * 2) 8).set (i * 2 + 1) 8)] := by
        simp only [soU1_o, set_u32, sadd_eq, smul_eq, Int.toNat_natCast, Nat.zero_add]
        rfl
      rw [hv] at hr4
      exact hY2 (n - (i + 1)) a4 w4 (by omega) ⟨i + 1, _, rfl, hlt3, by simp [hzl], hfr4, hr4⟩
  have hd3 : ¬ (i : Int) < n := by omega
  have hr4 : Res W NoOld ([] ++ (snB c cb ws n ++ [])) [] ([nregs ga n ca ys] ++ (nregs gx n cx zs :: K)) w3 := (show Res W NoOld ([] ++ (snB c cb ws n ++ [])) [] (nregs gx n cx zs :: nregs ga n ca ys :: K) w3 from hr3).perm (.refl _) (.swap ..)
  refine Res.segV (F := []) (V := [nregs ga n ca ys]) hostT _ (soT n c ga ca gb cb' gk ck gx cx i ys) soT1_n (soT1_1 n c ga ca gb cb' gk ck gx cx i ys) (soT1_2 n c ga ca gb cb' gk ck gx cx i ys) (hr4) (Looks.nil W) no_old no_ros rfl ?_ (fun _ _ => rfl) (fun _ _ => rfl) hfr3 fun ν j a5 w5 hfr5 hr5 => ?_
  · simp only [soT1_o]
    simp [hd3, nregs, regsV, addV_eq, maxLen]
    omega
  obtain ⟨o, ho⟩ : ∃ o, o = soT1_o n c ga ca gb cb' gk ck gx cx i ys ν j := ⟨_, rfl⟩
  rw [← ho] at hfr5 hr5
  rw [← ho]
  obtain ⟨g3, c3, V3, q0, q1, q2, q3, q4⟩ : ∃ g3 c3 V3, o.1 = .call 25 #[ptrV c, .int .i64 2] (some 88) (regAt Tryd.f7 23).1 ((regAt Tryd.f7 23).1.toList.drop 2) (regAt Tryd.f7 23).2 ∧ o.2.1 = [(5, ptrV c), (8, .slice (some ⟨g3, 0, none⟩) (n + 2) c3), (9, .slice (some ⟨gb, 0, none⟩) n cb'), (10, .slice (some ⟨gk, 0, none⟩) n ck)] ∧ o.2.2.news = [] ∧ o.2.2.blocks = [] ∧ o.2.2.vecs = [V3] := by
    rw [ho]
    simp only [soT1_o, addV_eq]
    exact ⟨_, _, _, rfl, rfl, trivial, trivial, rfl⟩
  rw [q1] at hfr5
  rw [q2, q3, q4, hK] at hr5
  rw [q0]
  have hr6 : Res W NoOld (snB c cb ws n ++ []) [] ([wordsV ws n n n (xs.map u64V)] ++ [regsV (some ⟨gb, 0, none⟩) n cb' (xs.flatMap regR), regsV (some ⟨gk, 0, none⟩) n ck (xs.flatMap regR)]) w5 :=
    (show Res W NoOld (snB c cb ws n ++ []) [] (V3 :: nregs gx n cx zs :: [wordsV ws n n n (xs.map u64V), regsV (some ⟨gb, 0, none⟩) n cb' (xs.flatMap regR), regsV (some ⟨gk, 0, none⟩) n ck (xs.flatMap regR)]) w5 from hr5).less (.refl _) (.refl _) (.cons _ (.cons _ (.refl _)))
  refine (snst.scanOk hx hn0 hn1 hlu (fun _ _ => id) (fun b h => h.elim) (by omega) (by omega) hr6).mono ?_
  rintro e w7 ⟨gy, cy, rfl, hr7⟩
  refine ⟨_, rfl, ?_⟩
  have hfr7 := hfr5.put (d := 88) (v := .tuple #[.slice (some ⟨gy, 0, none⟩) n cy, .int .i64 0]) (by decide +kernel) [(5, ptrV c), (8, .slice (some ⟨g3, 0, none⟩) (n + 2) c3), (9, .slice (some ⟨gb, 0, none⟩) n cb'), (10, .slice (some ⟨gk, 0, none⟩) n ck)] (fun x hx => hx) (by simp)
  have hr8 : Res W NoOld (snB c cb ws n ++ []) [] ([wordsV ws n n n (xs.map u64V), regsV (some ⟨gb, 0, none⟩) n cb' (xs.flatMap regR), regsV (some ⟨gk, 0, none⟩) n ck (xs.flatMap regR), regsV (some ⟨gy, 0, none⟩) n cy (xs.flatMap regR)] ++ []) w7 := hr7.perm (.refl _) (by
    rw [List.append_nil]
    exact .cons _ ((List.Perm.swap ..).trans (.cons _ (.swap ..))))
  have hw2 : IntKind.i64.wrap ((n : Int) + 2) = ((n + 2 : Nat) : Int) := by rw [wrap_i64 (by omega) (by omega)]; simp
  refine Res.segV (F := snB c cb ws n) (V := [wordsV ws n n n (xs.map u64V), regsV (some ⟨gb, 0, none⟩) n cb' (xs.flatMap regR), regsV (some ⟨gk, 0, none⟩) n ck (xs.flatMap regR), regsV (some ⟨gy, 0, none⟩) n cy (xs.flatMap regR)]) hostT _ (soR c cb ws n xs g3 (n + 2) c3 gb cb' gk ck gy cy) soR1_n (soR1_1 c cb ws n xs g3 (n + 2) c3 gb cb' gk ck gy cy) (soR1_2 c cb ws n xs g3 (n + 2) c3 gb cb' gk ck gy cy) (hr8) (Looks.nil W) no_old no_ros rfl ?_ (fun _ _ => rfl) (fun _ _ => rfl) hfr7 fun ν j a9 w9 hfr9 hr9 => ?_
  · simp only [soR1_o, all_u64, map_valU, regs_all]
    simp [Nat.blt_eq, Nat.ble_eq, hn0]
    omega
  · refine ⟨?_, res_old hr9⟩
    simp only [soR1_o, hw2]
    simp
end Go.Proofs.YtmihblocomnfjaaDoor.sown
