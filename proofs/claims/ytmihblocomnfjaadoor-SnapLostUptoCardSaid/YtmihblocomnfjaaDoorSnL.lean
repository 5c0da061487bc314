/- SnapLost: the walk whole. -/
import Derived.Test.YtmihblocomnfjaaDoorSnLM
set_option linter.unusedSimpArgs false
set_option linter.unusedVariables false
namespace Go.Proofs.YtmihblocomnfjaaDoor.slost
open Go Sy Close
set_option maxRecDepth 100000
open Sn (regR SD SP nxt did wd num vl)
open snst (blk vcs swp)
open snu (pV oRow)
open snl
theorem body : Tryd.f6.body = some (codeOf Tryd.f6) := by kernel_rfl
theorem ntmps : 3 ≤ Tryd.f6.ntmps := by decide +kernel
theorem snoc (os : List Int) (z : Int) : os.map i64V ++ [Value.int .i64 z] = (os ++ [z]).map i64V := by rw [List.map_append]; rfl
def stepsOf (n : Nat) (d : SD) : Nat := if d.k = 3 then 3 * n else 3
def fOf (n : Nat) (us : List SP) (i : Nat) : Nat := match us[i]? with
  | some u => stepsOf n u.d
  | none => 3
theorem fOf_le {n : Nat} (hn : n ≤ 64) (us : List SP) (i : Nat) : fOf n us i ≤ 192 := by
  unfold fOf
  split
  · unfold stepsOf; split <;> omega
  · omega
theorem fOf_ge {n : Nat} (hn : 0 < n) (us : List SP) (i : Nat) : 3 ≤ fOf n us i := by
  unfold fOf
  split
  · unfold stepsOf; split <;> omega
  · omega
theorem sub_PR {c n : Nat} {sp so : Option Addr} {m cp co wb : Nat} {ra : Option Addr} {rn rc i q : Nat} : ∀ x ∈ snlP c n sp so m cp co wb ra rn rc i, x ∈ snlR c n sp so m cp co wb ra rn rc i q :=
  fun _ hx => (List.Sublist.append (List.Sublist.refl (snlG c n sp so m cp co wb)) (List.Sublist.cons_cons _ (List.Sublist.cons_cons _ (List.Sublist.cons _ (List.Sublist.refl _))))).subset hx
set_option maxHeartbeats 4000000 in
theorem calls {W : World} (n : Int) {oa : Option Addr} {on oc : Nat} {l : List snu.Op} {sa : Option Addr} {sn sc : Nat} {ks : List Int} (hl : l.length = on) (hcap : on ≤ oc) (hmax : oc ≤ maxLen) (hel : ∀ i y, l[i]? = some y → Elem W oa 4 i y.row)
    (hl2 : ks.length = sn) (hcap2 : sn ≤ sc) (hmax2 : sc ≤ maxLen) (hel2 : ∀ i y, ks[i]? = some y → Elem W sa 1 i (intRow y)) (hb : on ≤ 1048576) (hb2 : sn ≤ 1048576) (hU : UsesAt W) :
    Calls Tryd.prog 6 #[.int .i64 n, .slice oa on oc, .slice sa sn sc] W (Done W) := by
  have hlu := looksUses hU
  refine calls_after (X := fun _ _ _ => False) Tryd.func6 body ntmps fun a1 ha => ?_
  by_cases h1 : 1 ≤ n ∧ n ≤ 64
  rotate_left
  · refine Res.segV (F := []) (GF := []) (V := []) (GV := []) hostT _ (snlA n oa on oc sa sn sc) snlA1_n (snlA1_1 n oa on oc sa sn sc) (snlA1_2 n oa on oc sa sn sc) (Res.start) (hlu) no_old no_ros rfl ?_ (fun _ _ => rfl) (fun _ _ => rfl) ha fun ν j a2 w2 hfr2 hr2 => ?_
    · simp [snlA1_o]; omega
    · exact ⟨rfl, res_old hr2⟩
  obtain ⟨n, rfl⟩ : ∃ n' : Nat, n = n' := ⟨n.toNat, by omega⟩
  have hn0 : 0 < n := by omega
  have hn1 : n ≤ 64 := by omega
  refine Res.segV (F := []) (GF := []) (V := []) (GV := []) hostT _ (snlA n oa on oc sa sn sc) snlA2_n (snlA2_1 n oa on oc sa sn sc) (snlA2_2 n oa on oc sa sn sc) (Res.start) (hlu) no_old no_ros rfl ?_ (fun _ _ => rfl) (fun _ _ => rfl) ha fun ν j a2 w2 hfr2 hr2 => ?_
  · simp [snlA2_o]; omega
  obtain ⟨o, ho⟩ : ∃ o, o = snlA2_o n oa on oc sa sn sc ν j := ⟨_, rfl⟩
  rw [← ho] at hfr2 hr2
  obtain ⟨c, cb, ws, e0, e1, e2, e3⟩ : ∃ c cb ws, o.1 = .call 22 #[ptrV c, .slice oa on oc] (some 41) (regAt Tryd.f6 6).1 ((regAt Tryd.f6 6).1.toList.drop 3) (regAt Tryd.f6 6).2 ∧ o.2.1 = [(0, .int .i64 n), (2, .slice sa sn sc), (7, ptrV c)] ∧ o.2.2.news = [(cb, 99, [.slice (some ⟨ws, 0, none⟩) n n]), (c, 78, [ptrV cb])] ∧ o.2.2.vecs = [wordsV ws n n n ((List.replicate n (0 : Int)).map u64V)] := by
    rw [ho]; exact ⟨_, _, _, rfl, rfl, rfl, rfl⟩
  have e4 : o.2.2.blocks = [] := by rw [ho]; rfl
  rw [← ho, e0]
  rw [e1] at hfr2
  rw [e2, e3, e4] at hr2
  have hres : Res W NoOld (snB c cb ws n ++ []) [] [wordsV ws n n n ((List.replicate n (0 : Int)).map u64V)] w2 := hr2.perm (List.Perm.swap ..) (.refl _)
  refine (snu.under hl hcap hmax hel hb hn0 hres).mono ?_
  rintro e w3 ⟨us, sp, so, m, cp, co, rfl, hmo, hU3⟩
  refine ⟨_, rfl, ?_⟩
  have hfr3 := hfr2.put (d := 41) (v := .tuple #[.slice sp m cp, .slice so m co]) (by decide +kernel) [(0, .int .i64 n), (2, .slice sa sn sc), (7, ptrV c)] (fun x hx => hx) (by simp)
  have hlus := hU3.lu
  have hbeg := hU3.ok
  obtain ⟨PS, hPS⟩ : ∃ PS, PS = us.map pV := ⟨_, rfl⟩
  obtain ⟨OS, hOS⟩ : ∃ OS, OS = us.flatMap oR := ⟨_, rfl⟩
  obtain ⟨FF, hFF⟩ : ∃ FF, FF = snB c cb ws n ++ us.flatMap (blk c) := ⟨_, rfl⟩
  obtain ⟨VC, hVC⟩ : ∃ VC, VC = us.flatMap vcs := ⟨_, rfl⟩
  have hR3 : Res W NoOld FF [] ([sptrs sp m cp PS, sopsV so m co OS] ++ (VC ++ [wordsV ws n n n ((List.replicate n (0 : Int)).map u64V)])) w3 := by
    rw [hPS, hOS, hFF, hVC]
    have := hU3.res
    rw [List.append_nil] at this
    exact this
  clear hU3
  refine Res.segV (F := []) (V := []) hostT _ (snlB c n sa sn sc sp so m cp co) snlB1_n (snlB1_1 c n sa sn sc sp so m cp co) (snlB1_2 c n sa sn sc sp so m cp co) (hR3) (Looks.nil W) no_old no_ros rfl ?_ (fun _ _ => rfl) (fun _ _ => rfl) hfr3 fun ν j a4 w4 hfr4 hr4 => ?_
  · simp [snlB1_o, maxLen]
    exact ⟨decide_eq_true (by omega), by omega⟩
  obtain ⟨o, ho⟩ : ∃ o, o = snlB1_o c n sa sn sc sp so m cp co ν j := ⟨_, rfl⟩
  have e0 : o.1 = .loop (cutAt Tryd.f6 10).1 (cutAt Tryd.f6 10).2 := by rw [ho]; rfl
  rw [← ho] at hfr4 hr4
  rw [← ho, e0]
  obtain ⟨wb, e1, e2, e3, e4⟩ : ∃ wb, o.2.1 = snlK c n sa sn sc sp so m cp co wb none 0 0 0 ∧ o.2.2.vecs = [nregs wb n n (nums (List.replicate n 0))] ∧ o.2.2.news = [] ∧ o.2.2.blocks = [] := by
    rw [ho]
    simp only [snlB1_o, Int.toNat_natCast, made_regs]
    exact ⟨_, rfl, rfl, trivial, trivial⟩
  rw [e1] at hfr4
  rw [e2, e3, e4] at hr4
  clear e0 e1 e2 e3 e4 ho o hR3 hfr3
  obtain ⟨VV, hVV⟩ : ∃ VV, VV = wordsV ws n n n ((List.replicate n (0 : Int)).map u64V) :: sptrs sp m cp PS :: sopsV so m co OS :: nregs wb n n (nums (List.replicate n 0)) :: VC := ⟨_, rfl⟩
  have hr5 : Res W NoOld ([] ++ FF) [] ([ordV none 0 0 (ks.take 0)] ++ VV) w4 := by
    refine res_nil (hr4.perm (.refl _) ?_) _ _
    rw [hVV]
    refine (?_ : List.Perm _ (nregs wb n n (nums (List.replicate n 0)) :: sptrs sp m cp PS :: sopsV so m co OS :: wordsV ws n n n ((List.replicate n (0 : Int)).map u64V) :: VC)).trans ?_
    · exact .cons _ (.cons _ (.cons _ (List.perm_append_comm (l₁ := VC) (l₂ := [wordsV ws n n n ((List.replicate n (0 : Int)).map u64V)]))))
    · exact (List.perm_middle (l₁ := [nregs wb n n (nums (List.replicate n 0)), sptrs sp m cp PS, sopsV so m co OS])).trans (.cons _ (List.perm_middle (l₁ := [sptrs sp m cp PS, sopsV so m co OS])).symm)
  have hmax3 : maxLen = maxLen := rfl
  refine loop_after (i := 10) (by kernel_rfl) (fun d a w1 => ∃ (i : Nat) (ra : Option Addr) (rc : Nat), d = sn - i ∧ i ≤ sn ∧ Fr Tryd.f6.ntmps (snlK c n sa sn sc sp so m cp co wb ra i rc i) a ∧ Res W NoOld ([] ++ FF) [] ([ordV ra i rc (ks.take i)] ++ VV) w1) sn ⟨0, none, 0, rfl, Nat.zero_le _, hfr4, hr5⟩ ?_
  clear hr5 hr4 hfr4
  rintro d a5 w5 ⟨i, ra, rc, rfl, hi, hfr5, hr5⟩ Y0 hY0 _
  by_cases hlt : i < sn
  · obtain ⟨kv, hk⟩ : ∃ k, ks[i]? = some k := ⟨_, List.getElem?_eq_getElem (by omega)⟩
    have he := hel2 i kv hk
    obtain ⟨sb, sf, rfl, _⟩ := hel2 i kv hk
    have hro := ro_elem' he [(0, .int .i64 kv)] (by simp [intRow]) (by simp)
    have hws := wrap_next hlt hcap2 hmax2
    have htk : ks.take (i + 1) = ks.take i ++ [kv] := by rw [List.take_add_one, hk]; rfl
    refine Res.segV (F := []) (V := [ordV ra i rc (ks.take i)]) hostT _ (snlC c n sb sf sn sc sp so m cp co wb ra i rc (ks.take i) i kv) snlC1_n (snlC1_1 c n sb sf sn sc sp so m cp co wb ra i rc (ks.take i) i kv) (snlC1_2 c n sb sf sn sc sp so m cp co wb ra i rc (ks.take i) i kv) (hr5) (hro) no_old no_ros rfl ?_ (fun _ _ => rfl) (fun _ _ => rfl) hfr5 fun ν j a6 w6 hfr6 hr6 => ?_
    · simp [snlC1_o, hlt, ordV, addV_eq, maxLen]; omega
    · obtain ⟨o, ho⟩ : ∃ o, o = snlC1_o c n sb sf sn sc sp so m cp co wb ra i rc (ks.take i) i kv ν j := ⟨_, rfl⟩
      rw [← ho] at hfr6 hr6
      obtain ⟨gr, rc', e1, e2, e3, e4⟩ : ∃ gr rc', o.2.1 = snlK c n (some ⟨sb, sf, none⟩) sn sc sp so m cp co wb (some ⟨gr, 0, none⟩) (i + 1) rc' (i + 1) ∧ o.2.2.vecs = [ordV (some ⟨gr, 0, none⟩) (i + 1) rc' (ks.take (i + 1))] ∧ o.2.2.news = [] ∧ o.2.2.blocks = [] := by
        rw [ho, htk]
        simp only [snlC1_o, hws, addV_eq, snoc]
        exact ⟨_, _, rfl, rfl, trivial, trivial⟩
      rw [e1] at hfr6
      rw [e2, e3, e4] at hr6
      exact hY0 _ a6 w6 (by omega) ⟨i + 1, _, rc', rfl, hlt, hfr6, hr6⟩
  have hd : ¬ (i : Int) < sn := by omega
  have hin : i = sn := by omega
  subst hin
  have htk : ks.take i = ks := List.take_of_length_le (by omega)
  rw [htk] at hr5
  refine Res.segV (F := []) (V := []) hostT _ (snlD c n sa i sc sp so m cp co wb ra i rc i) snlD1_n (snlD1_1 c n sa i sc sp so m cp co wb ra i rc i) (snlD1_2 c n sa i sc sp so m cp co wb ra i rc i) (hr5) (Looks.nil W) no_old no_ros rfl ?_ (fun _ _ => rfl) (fun _ _ => rfl) hfr5 fun ν j a6 w6 hfr6 hr6 => ?_
  · simp [snlD1_o, hd]
  obtain ⟨f, hf⟩ : ∃ f, f = fOf n us := ⟨_, rfl⟩
  have hf1 : ∀ i, f i ≤ 192 := fun i => by rw [hf]; exact fOf_le hn1 us i
  have hf2 : ∀ i, 3 ≤ f i := fun i => by rw [hf]; exact fOf_ge hn0 us i
  have hfrA : Fr Tryd.f6.ntmps (snlL c n sp so m cp co wb ra (ks ++ Sn.tail f 0).length rc 0) a6 := by
    rw [Sn.tail, List.append_nil, hl2]; exact hfr6
  have hrA : Res W NoOld ([] ++ FF) [] ([ordV ra (ks ++ Sn.tail f 0).length rc (ks ++ Sn.tail f 0)] ++ VV) w6 := by
    rw [Sn.tail, List.append_nil, hl2]; exact hr6
  have hbi := hb2
  generalize i = sn at *
  refine loop_after (i := 14) (by kernel_rfl) (fun d a w1 => ∃ (i : Nat) (ra : Option Addr) (rc : Nat) (os : List Int), d = m - i ∧ i ≤ m ∧ os = ks ++ Sn.tail f i ∧ os.length ≤ 1048576 + 192 * i ∧ Fr Tryd.f6.ntmps (snlL c n sp so m cp co wb ra os.length rc i) a ∧ Res W NoOld ([] ++ FF) [] ([ordV ra os.length rc os] ++ VV) w1) m ⟨0, ra, rc, _, rfl, Nat.zero_le _, rfl, by simp [Sn.tail]; omega, hfrA, hrA⟩ ?_
  clear hrA hfrA hr6 hfr6 hr5 hfr5 hbi hd htk
  rintro d a7 w7 ⟨i, ra, rc, os, rfl, hi, hos, hol, hfr7, hr7⟩ Y hY _
  have hwm : ∀ {i : Nat}, i < m → IntKind.i64.wrap ((i : Int) + 1) = ((i + 1 : Nat) : Int) := fun {i} hi => by rw [wrap_i64 (by omega) (by omega)]; simp
  by_cases hlt : i < m
  · obtain ⟨u, hu⟩ : ∃ u, us[i]? = some u := ⟨_, List.getElem?_eq_getElem (by omega)⟩
    have hr7' : Res W NoOld ([] ++ FF) [] ([] ++ ([sopsV so m co OS] ++ (ordV ra os.length rc os :: wordsV ws n n n ((List.replicate n (0 : Int)).map u64V) :: sptrs sp m cp PS :: nregs wb n n (nums (List.replicate n 0)) :: VC))) w7 := by
      refine hr7.perm (.refl _) ?_
      rw [hVV]
      exact List.perm_middle (l₁ := [ordV ra os.length rc os, wordsV ws n n n ((List.replicate n (0 : Int)).map u64V), sptrs sp m cp PS])
    obtain ⟨_, _, hso⟩ := res_len hr7' (e := 37) (s := 4) (n := m) (c := co) (so := so) (xs := OS) (List.mem_cons_self ..)
    obtain ⟨go, rfl⟩ := hso (by omega)
    have ops : ∀ o ∈ ([⟨sopsV (some ⟨go, 0, none⟩) m co OS, go, elC 4 i [(0, .int .u8 u.d.k)]⟩] : List Sy.Open), OpenOk o := opens_cons (by rw [hOS]; exact opK rfl hu) opens_nil
    have hfi : f i = stepsOf n u.d := by rw [hf]; unfold fOf; rw [hu]
    have hfle := hf1 i
    by_cases hk3 : u.d.k = 3
    · refine Res.segO (F := []) (V := []) hostT _ (snlE c n sp go m cp co wb ra os.length rc i u.d.k) snlE2_n (snlE2_1 c n sp go m cp co wb ra os.length rc i u.d.k) (snlE2_2 c n sp go m cp co wb ra os.length rc i u.d.k) _ (hr7') (ops) (Looks.nil W) no_old no_ros rfl ?_ (fun _ _ => rfl) (fun _ _ => rfl) (fun _ _ => rfl) hfr7 fun ν j a6 w6 hfr6 hr6 => ?_
      · simp [snlE2_o, hlt, hk3]
      have hst : f i = 3 * n := by rw [hfi]; simp [stepsOf, hk3]
      obtain ⟨st, hste⟩ : ∃ st, st = f i := ⟨_, rfl⟩
      have hw3 : IntKind.i64.wrap (3 * (n : Int)) = ((3 * n : Nat) : Int) := by rw [wrap_i64 (by omega) (by omega)]; simp
      have e5 : reV [⟨sopsV (some ⟨go, 0, none⟩) m co OS, go, elC 4 i [(0, .int .u8 u.d.k)]⟩] (snlE2_o c n sp go m cp co wb ra os.length rc i u.d.k ν j).2.2.loose = [sopsV (some ⟨go, 0, none⟩) m co OS] := Sy.re_same (l0 := []) ops
      rw [e5] at hr6
      have hr8 : Res W NoOld ([] ++ FF) [] ([ordV ra (ks ++ (Sn.tail f i ++ List.replicate 0 (i : Int))).length rc (ks ++ (Sn.tail f i ++ List.replicate 0 (i : Int)))] ++ VV) w6 := by
        rw [List.replicate_zero, List.append_nil, ← hos, hVV]
        exact (show Res W NoOld ([] ++ FF) [] (sopsV (some ⟨go, 0, none⟩) m co OS :: ordV ra os.length rc os :: wordsV ws n n n ((List.replicate n (0 : Int)).map u64V) :: sptrs sp m cp PS :: nregs wb n n (nums (List.replicate n 0)) :: VC) w6 from hr6).perm (.refl _) (List.perm_middle (l₁ := [ordV ra os.length rc os, wordsV ws n n n ((List.replicate n (0 : Int)).map u64V), sptrs sp m cp PS])).symm
      have hfr8 : Fr Tryd.f6.ntmps (snlM c n sp (some ⟨go, 0, none⟩) m cp co wb ra (ks ++ (Sn.tail f i ++ List.replicate 0 (i : Int))).length rc i st 0) a6 := by
        rw [List.replicate_zero, List.append_nil, ← hos, hste, hst]
        simp only [snlE2_o, hw3] at hfr6
        exact hfr6
      have hls : (ks ++ Sn.tail f i).length ≤ 1048576 + 192 * i := by rw [← hos]; exact hol
      refine loop_after (i := 20) (by kernel_rfl) (fun d a w1 => ∃ (jj : Nat) (ra : Option Addr) (rc : Nat) (os : List Int), d = st - jj ∧ jj ≤ st ∧ os = ks ++ (Sn.tail f i ++ List.replicate jj (i : Int)) ∧ os.length ≤ 1048576 + 192 * i + jj ∧ Fr Tryd.f6.ntmps (snlM c n sp (some ⟨go, 0, none⟩) m cp co wb ra os.length rc i st jj) a ∧ Res W NoOld ([] ++ FF) [] ([ordV ra os.length rc os] ++ VV) w1) st ⟨0, ra, rc, _, rfl, Nat.zero_le _, rfl, (by simpa using hls), hfr8, hr8⟩ ?_
      clear hr8 hfr8 hr6 hfr6 e5 ops hr7' hr7 hfr7 hos hol
      rintro d a9 w9 ⟨jj, ra, rc, os, rfl, hjj, hos, hol, hfr9, hr9⟩ Y2 hY2 hYY
      by_cases hjl : jj < st
      · have hwj : IntKind.i64.wrap ((jj : Int) + 1) = ((jj + 1 : Nat) : Int) := by rw [wrap_i64 (by omega) (by omega)]; simp
        refine Res.segV (F := []) (V := [ordV ra os.length rc os]) hostT _ (snlF c n sp (some ⟨go, 0, none⟩) m cp co wb ra os.length rc i st jj os) snlF1_n (snlF1_1 c n sp (some ⟨go, 0, none⟩) m cp co wb ra os.length rc i st jj os) (snlF1_2 c n sp (some ⟨go, 0, none⟩) m cp co wb ra os.length rc i st jj os) (hr9) (Looks.nil W) no_old no_ros rfl ?_ (fun _ _ => rfl) (fun _ _ => rfl) hfr9 fun ν j a6 w6 hfr6 hr6 => ?_
        · simp [snlF1_o, hjl, ordV, addV_eq, maxLen]; omega
        · obtain ⟨o, ho⟩ : ∃ o, o = snlF1_o c n sp (some ⟨go, 0, none⟩) m cp co wb ra os.length rc i st jj os ν j := ⟨_, rfl⟩
          rw [← ho] at hfr6 hr6
          obtain ⟨gr, rc', e1, e2, e3, e4⟩ : ∃ gr rc', o.2.1 = snlM c n sp (some ⟨go, 0, none⟩) m cp co wb (some ⟨gr, 0, none⟩) (os ++ [(i : Int)]).length rc' i st (jj + 1) ∧ o.2.2.vecs = [ordV (some ⟨gr, 0, none⟩) (os ++ [(i : Int)]).length rc' (os ++ [(i : Int)])] ∧ o.2.2.news = [] ∧ o.2.2.blocks = [] := by
            rw [ho, List.length_append]
            simp only [snlF1_o, hwj, addV_eq, snoc]
            exact ⟨_, _, rfl, rfl, trivial, trivial⟩
          rw [e1] at hfr6
          rw [e2, e3, e4] at hr6
          exact hY2 _ a6 w6 (by omega) ⟨jj + 1, _, rc', _, rfl, hjl, by rw [hos, List.replicate_succ', List.append_assoc, List.append_assoc], by rw [List.length_append]; simp; omega, hfr6, hr6⟩
      · have hje : jj = st := by omega
        have hjn : ¬ (jj : Int) < st := by omega
        refine Res.segV (F := []) (V := []) hostT _ (snlH c n sp (some ⟨go, 0, none⟩) m cp co wb ra os.length rc i st jj) snlH1_n (snlH1_1 c n sp (some ⟨go, 0, none⟩) m cp co wb ra os.length rc i st jj) (snlH1_2 c n sp (some ⟨go, 0, none⟩) m cp co wb ra os.length rc i st jj) (hr9) (Looks.nil W) no_old no_ros rfl ?_ (fun _ _ => rfl) (fun _ _ => rfl) hfr9 fun ν j a6 w6 hfr6 hr6 => ?_
        · simp [snlH1_o, hjn]
        · show Y2 14 a6 w6
          rw [hYY 14 (by decide)]
          simp only [snlH1_o, hwm hlt] at hfr6
          exact hY _ a6 w6 (by omega) ⟨i + 1, ra, rc, os, rfl, hlt, by rw [hos, Sn.tail, ← hste, hje], by omega, hfr6, hr6⟩
    by_cases hk3 : ¬ u.d.k = 3
    · refine Res.segO (F := []) (V := []) hostT _ (snlE c n sp go m cp co wb ra os.length rc i u.d.k) snlE1_n (snlE1_1 c n sp go m cp co wb ra os.length rc i u.d.k) (snlE1_2 c n sp go m cp co wb ra os.length rc i u.d.k) _ (hr7') (ops) (Looks.nil W) no_old no_ros rfl ?_ (fun _ _ => rfl) (fun _ _ => rfl) (fun _ _ => rfl) hfr7 fun ν j a6 w6 hfr6 hr6 => ?_
      · simp [snlE1_o, hlt, hk3]
      have hst : f i = 3 := by rw [hfi]; simp [stepsOf, hk3]
      obtain ⟨st, hste⟩ : ∃ st, st = f i := ⟨_, rfl⟩
      have hw3 : IntKind.i64.wrap (3 * (n : Int)) = ((3 * n : Nat) : Int) := by rw [wrap_i64 (by omega) (by omega)]; simp
      have e5 : reV [⟨sopsV (some ⟨go, 0, none⟩) m co OS, go, elC 4 i [(0, .int .u8 u.d.k)]⟩] (snlE1_o c n sp go m cp co wb ra os.length rc i u.d.k ν j).2.2.loose = [sopsV (some ⟨go, 0, none⟩) m co OS] := Sy.re_same (l0 := []) ops
      rw [e5] at hr6
      have hr8 : Res W NoOld ([] ++ FF) [] ([ordV ra (ks ++ (Sn.tail f i ++ List.replicate 0 (i : Int))).length rc (ks ++ (Sn.tail f i ++ List.replicate 0 (i : Int)))] ++ VV) w6 := by
        rw [List.replicate_zero, List.append_nil, ← hos, hVV]
        exact (show Res W NoOld ([] ++ FF) [] (sopsV (some ⟨go, 0, none⟩) m co OS :: ordV ra os.length rc os :: wordsV ws n n n ((List.replicate n (0 : Int)).map u64V) :: sptrs sp m cp PS :: nregs wb n n (nums (List.replicate n 0)) :: VC) w6 from hr6).perm (.refl _) (List.perm_middle (l₁ := [ordV ra os.length rc os, wordsV ws n n n ((List.replicate n (0 : Int)).map u64V), sptrs sp m cp PS])).symm
      have hfr8 : Fr Tryd.f6.ntmps (snlM c n sp (some ⟨go, 0, none⟩) m cp co wb ra (ks ++ (Sn.tail f i ++ List.replicate 0 (i : Int))).length rc i st 0) a6 := by
        rw [List.replicate_zero, List.append_nil, ← hos, hste, hst]
        simp only [snlE1_o, hw3] at hfr6
        exact hfr6
      have hls : (ks ++ Sn.tail f i).length ≤ 1048576 + 192 * i := by rw [← hos]; exact hol
      refine loop_after (i := 20) (by kernel_rfl) (fun d a w1 => ∃ (jj : Nat) (ra : Option Addr) (rc : Nat) (os : List Int), d = st - jj ∧ jj ≤ st ∧ os = ks ++ (Sn.tail f i ++ List.replicate jj (i : Int)) ∧ os.length ≤ 1048576 + 192 * i + jj ∧ Fr Tryd.f6.ntmps (snlM c n sp (some ⟨go, 0, none⟩) m cp co wb ra os.length rc i st jj) a ∧ Res W NoOld ([] ++ FF) [] ([ordV ra os.length rc os] ++ VV) w1) st ⟨0, ra, rc, _, rfl, Nat.zero_le _, rfl, (by simpa using hls), hfr8, hr8⟩ ?_
      clear hr8 hfr8 hr6 hfr6 e5 ops hr7' hr7 hfr7 hos hol
      rintro d a9 w9 ⟨jj, ra, rc, os, rfl, hjj, hos, hol, hfr9, hr9⟩ Y2 hY2 hYY
      by_cases hjl : jj < st
      · have hwj : IntKind.i64.wrap ((jj : Int) + 1) = ((jj + 1 : Nat) : Int) := by rw [wrap_i64 (by omega) (by omega)]; simp
        refine Res.segV (F := []) (V := [ordV ra os.length rc os]) hostT _ (snlF c n sp (some ⟨go, 0, none⟩) m cp co wb ra os.length rc i st jj os) snlF1_n (snlF1_1 c n sp (some ⟨go, 0, none⟩) m cp co wb ra os.length rc i st jj os) (snlF1_2 c n sp (some ⟨go, 0, none⟩) m cp co wb ra os.length rc i st jj os) (hr9) (Looks.nil W) no_old no_ros rfl ?_ (fun _ _ => rfl) (fun _ _ => rfl) hfr9 fun ν j a6 w6 hfr6 hr6 => ?_
        · simp [snlF1_o, hjl, ordV, addV_eq, maxLen]; omega
        · obtain ⟨o, ho⟩ : ∃ o, o = snlF1_o c n sp (some ⟨go, 0, none⟩) m cp co wb ra os.length rc i st jj os ν j := ⟨_, rfl⟩
          rw [← ho] at hfr6 hr6
          obtain ⟨gr, rc', e1, e2, e3, e4⟩ : ∃ gr rc', o.2.1 = snlM c n sp (some ⟨go, 0, none⟩) m cp co wb (some ⟨gr, 0, none⟩) (os ++ [(i : Int)]).length rc' i st (jj + 1) ∧ o.2.2.vecs = [ordV (some ⟨gr, 0, none⟩) (os ++ [(i : Int)]).length rc' (os ++ [(i : Int)])] ∧ o.2.2.news = [] ∧ o.2.2.blocks = [] := by
            rw [ho, List.length_append]
            simp only [snlF1_o, hwj, addV_eq, snoc]
            exact ⟨_, _, rfl, rfl, trivial, trivial⟩
          rw [e1] at hfr6
          rw [e2, e3, e4] at hr6
          exact hY2 _ a6 w6 (by omega) ⟨jj + 1, _, rc', _, rfl, hjl, by rw [hos, List.replicate_succ', List.append_assoc, List.append_assoc], by rw [List.length_append]; simp; omega, hfr6, hr6⟩
      · have hje : jj = st := by omega
        have hjn : ¬ (jj : Int) < st := by omega
        refine Res.segV (F := []) (V := []) hostT _ (snlH c n sp (some ⟨go, 0, none⟩) m cp co wb ra os.length rc i st jj) snlH1_n (snlH1_1 c n sp (some ⟨go, 0, none⟩) m cp co wb ra os.length rc i st jj) (snlH1_2 c n sp (some ⟨go, 0, none⟩) m cp co wb ra os.length rc i st jj) (hr9) (Looks.nil W) no_old no_ros rfl ?_ (fun _ _ => rfl) (fun _ _ => rfl) hfr9 fun ν j a6 w6 hfr6 hr6 => ?_
        · simp [snlH1_o, hjn]
        · show Y2 14 a6 w6
          rw [hYY 14 (by decide)]
          simp only [snlH1_o, hwm hlt] at hfr6
          exact hY _ a6 w6 (by omega) ⟨i + 1, ra, rc, os, rfl, hlt, by rw [hos, Sn.tail, ← hste, hje], by omega, hfr6, hr6⟩
    exact (hk3 ‹¬ u.d.k = 3›).elim
  have hd : ¬ (i : Int) < m := by omega
  have hin : i = m := by omega
  subst hin
  refine Res.segV (F := []) (V := []) hostT _ (snlI c n sp so i cp co wb ra os.length rc i) snlI1_n (snlI1_1 c n sp so i cp co wb ra os.length rc i) (snlI1_2 c n sp so i cp co wb ra os.length rc i) (hr7) (Looks.nil W) no_old no_ros rfl ?_ (fun _ _ => rfl) (fun _ _ => rfl) hfr7 fun ν j a6 w6 hfr6 hr6 => ?_
  · simp [snlI1_o, hd]
  generalize i = m at *
  have hfr8 : Fr Tryd.f6.ntmps (snlP c n sp so m cp co wb ra os.length rc 0) a6 := hfr6
  have hS8 : St W c cb ws n us sp so m cp co wb ra os.length rc os (List.replicate n 0) (nums (List.replicate n 0)) w6 := by
    refine ⟨?_, by simp, hlus, fun u hu => ?_⟩
    · have hr6' : Res W NoOld FF [] (ordV ra os.length rc os :: VV) w6 := hr6
      rw [hVV] at hr6'
      rw [← hPS, ← hOS, ← hFF, ← hVC]
      exact hr6'.perm (.refl _) q_d.symm
    · have := hbeg u hu
      exact ⟨fun _ => this.good, this.rng.1, this.rng.2⟩
  clear hr6 hfr6 hr7 hfr7 hY hY0 hVV hVC hFF hOS hPS VV VC FF OS PS
  obtain ⟨st0, hst0⟩ : ∃ st0, st0 = (List.replicate n (0 : Int), us.map SP.d) := ⟨_, rfl⟩
  have hl0 : st0.2.length = m := by rw [hst0]; simp [hlus]
  obtain ⟨rn, hrn⟩ : ∃ rn, rn = os.length := ⟨_, rfl⟩
  rw [← hrn] at hfr8 hS8 hol
  refine loop_after (i := 24) (by kernel_rfl) (fun d a w1 => ∃ (i : Nat) (us : List SP) (xs : List Int), d = rn - i ∧ i ≤ rn ∧ (xs, us.map SP.d) = Sn.run n st0 (os.take i) ∧ Fr Tryd.f6.ntmps (snlP c n sp so m cp co wb ra rn rc i) a ∧ St W c cb ws n us sp so m cp co wb ra rn rc os xs (nums xs) w1) rn ⟨0, us, _, rfl, Nat.zero_le _, hst0.symm, hfr8, hS8⟩ ?_
  clear hS8 hfr8 hst0 hbeg hlus hf
  clear us
  rintro d a5 w5 ⟨i, us, xs, rfl, hi, hrun, hfr5, hS⟩ Y3 hY3 _
  by_cases hlt : i < rn
  · obtain ⟨kv, hk⟩ : ∃ k, os[i]? = some k := ⟨_, List.getElem?_eq_getElem (by omega)⟩
    have hws : IntKind.i64.wrap ((i : Int) + 1) = ((i + 1 : Nat) : Int) := by rw [wrap_i64 (by omega) (by omega)]; simp
    have htk : os.take (i + 1) = os.take i ++ [kv] := by rw [List.take_add_one, hk]; rfl
    have hrun1 : Sn.run n st0 (os.take (i + 1)) = Sn.turnI n (xs, us.map SP.d) kv := by rw [htk, Sn.run_snoc, ← hrun]
    obtain ⟨_, _, hra⟩ := res_len hS.res (e := 3) (s := 1) (n := rn) (c := rc) (so := ra) (xs := os.map i64V) (List.mem_cons_of_mem _ (List.mem_cons_of_mem _ (List.mem_cons_of_mem _ (List.mem_cons_of_mem _ (List.mem_cons_self ..)))))
    obtain ⟨gr, rfl⟩ := hra (by omega)
    have ops1 : ∀ o ∈ ([⟨ordV (some ⟨gr, 0, none⟩) rn rc os, gr, elC 1 i [(0, .int .i64 kv)]⟩] : List Sy.Open), OpenOk o := opens_cons (opD rfl hk) opens_nil
    have hF1 : Res W NoOld ([] ++ (snB c cb ws n ++ us.flatMap (blk c))) [] ([] ++ ([ordV (some ⟨gr, 0, none⟩) rn rc os] ++ (wordsV ws n n n (xs.map u64V) :: sptrs sp m cp (us.map pV) :: sopsV so m co (us.flatMap oR) :: nregs wb n n (nums xs) :: us.flatMap vcs))) w5 := hS.res.perm (.refl _) q_d
    obtain ⟨PS, hPS⟩ : ∃ PS, PS = us.map pV := ⟨_, rfl⟩
    obtain ⟨OS, hOS⟩ : ∃ OS, OS = us.flatMap oR := ⟨_, rfl⟩
    obtain ⟨FF, hFF⟩ : ∃ FF, FF = us.flatMap (blk c) := ⟨_, rfl⟩
    obtain ⟨VC, hVC⟩ : ∃ VC, VC = us.flatMap vcs := ⟨_, rfl⟩
    rw [← hPS, ← hOS, ← hFF, ← hVC] at hF1
    have out : ∀ {w6 : World} {a6 : Act}, Sn.turnI n (xs, us.map SP.d) kv = (xs, us.map SP.d) → Fr Tryd.f6.ntmps (snlP c n sp so m cp co wb (some ⟨gr, 0, none⟩) rn rc (i + 1)) a6 → Res W NoOld ([] ++ (snB c cb ws n ++ FF)) [] (ordV (some ⟨gr, 0, none⟩) rn rc os :: wordsV ws n n n (xs.map u64V) :: sptrs sp m cp PS :: sopsV so m co OS :: nregs wb n n (nums xs) :: VC) w6 → Y3 24 a6 w6 := fun {w6 a6} ht hfr hr => by
      rw [hPS, hOS, hFF, hVC] at hr
      exact hY3 (rn - (i + 1)) a6 w6 (by omega) ⟨i + 1, us, xs, rfl, hlt, by rw [hrun1, ht], hfr, ⟨hr.perm (.refl _) q_d.symm, hS.hx, hS.lu, hS.ok⟩⟩
    by_cases hk0 : kv < 0
    · refine Res.segO (F := []) (V := []) hostT _ (snlN c n sp so m cp co wb gr rn rc i kv) snlN1_n (snlN1_1 c n sp so m cp co wb gr rn rc i kv) (snlN1_2 c n sp so m cp co wb gr rn rc i kv) _ (hF1) (ops1) (Looks.nil W) no_old no_ros rfl ?_ (fun _ _ => rfl) (fun _ _ => rfl) (fun _ _ => rfl) hfr5 fun ν j a6 w6 hfr6 hr6 => ?_
      · simp [snlN1_o, hlt, hk0]
      · have e5 : reV [⟨ordV (some ⟨gr, 0, none⟩) rn rc os, gr, elC 1 i [(0, .int .i64 kv)]⟩] (snlN1_o c n sp so m cp co wb gr rn rc i kv ν j).2.2.loose = [ordV (some ⟨gr, 0, none⟩) rn rc os] := Sy.re_same (l0 := []) ops1
        rw [e5] at hr6
        simp only [snlN1_o, hws] at hfr6
        exact out (by unfold Sn.turnI; rw [if_neg (by omega)]) hfr6 hr6
    by_cases hkm : kv ≥ m
    · refine Res.segO (F := []) (V := []) hostT _ (snlN c n sp so m cp co wb gr rn rc i kv) snlN2_n (snlN2_1 c n sp so m cp co wb gr rn rc i kv) (snlN2_2 c n sp so m cp co wb gr rn rc i kv) _ (hF1) (ops1) (Looks.nil W) no_old no_ros rfl ?_ (fun _ _ => rfl) (fun _ _ => rfl) (fun _ _ => rfl) hfr5 fun ν j a6 w6 hfr6 hr6 => ?_
      · simp [snlN2_o, hlt, hk0, hkm] <;> omega
      · have e5 : reV [⟨ordV (some ⟨gr, 0, none⟩) rn rc os, gr, elC 1 i [(0, .int .i64 kv)]⟩] (snlN2_o c n sp so m cp co wb gr rn rc i kv ν j).2.2.loose = [ordV (some ⟨gr, 0, none⟩) rn rc os] := Sy.re_same (l0 := []) ops1
        rw [e5] at hr6
        simp only [snlN2_o, hws] at hfr6
        refine out ?_ hfr6 hr6
        unfold Sn.turnI Sn.turn
        rw [if_pos (by omega), List.getElem?_eq_none (by simp [hS.lu]; omega)]
    obtain ⟨q, rfl⟩ : ∃ q : Nat, kv = q := ⟨kv.toNat, by omega⟩
    have hqm : q < m := by omega
    have hlu' := hS.lu
    obtain ⟨u, hu⟩ : ∃ u, us[q]? = some u := ⟨_, List.getElem?_eq_getElem (by rw [hS.lu]; exact hqm)⟩
    obtain ⟨_, _, hsp⟩ := res_len hS.res (e := 31) (s := 1) (n := m) (c := cp) (so := sp) (xs := us.map pV) (List.mem_cons_of_mem _ (List.mem_cons_self ..))
    obtain ⟨gp, rfl⟩ := hsp (by omega)
    obtain ⟨_, _, hso⟩ := res_len hS.res (e := 37) (s := 4) (n := m) (c := co) (so := so) (xs := us.flatMap oR) (List.mem_cons_of_mem _ (List.mem_cons_of_mem _ (List.mem_cons_self ..)))
    obtain ⟨go, rfl⟩ := hso (by omega)
    have ops2 : ∀ o ∈ ([⟨ordV (some ⟨gr, 0, none⟩) rn rc os, gr, elC 1 i [(0, .int .i64 q)]⟩, ⟨sptrs (some ⟨gp, 0, none⟩) m cp PS, gp, elC 1 q [(0, ptrV u.p)]⟩] : List Sy.Open), OpenOk o := opens_cons (opD rfl hk) (opens_cons (by rw [hPS]; exact opP rfl hu) opens_nil)
    have pS : (snB c cb ws n ++ us.flatMap (blk c)).Perm (blk c u ++ (snB c cb ws n ++ (us.eraseIdx q).flatMap (blk c))) := (perm_in (snu.flat_focus hu)).trans swp
    obtain ⟨FE, hFE⟩ : ∃ FE, FE = (us.eraseIdx q).flatMap (blk c) := ⟨_, rfl⟩
    rw [← hFE, ← hFF] at pS
    have hF2 : Res W NoOld (blk c u ++ (snB c cb ws n ++ FE)) [] ([] ++ ([ordV (some ⟨gr, 0, none⟩) rn rc os, sptrs (some ⟨gp, 0, none⟩) m cp PS] ++ (wordsV ws n n n (xs.map u64V) :: sopsV (some ⟨go, 0, none⟩) m co OS :: nregs wb n n (nums xs) :: VC))) w5 := hF1.perm pS (.cons _ (.swap ..))
    have hturn : Sn.turnI n (xs, us.map SP.d) q = if u.d.over = true then (xs, us.map SP.d) else ((nxt n xs u.d).1, (us.map SP.d).set q (nxt n xs u.d).2.1) := by
      unfold Sn.turnI Sn.turn
      rw [if_pos (by omega), Int.toNat_natCast, List.getElem?_map, hu]
      rfl
    cases hov : u.d.over with
    | true =>
      refine Res.segO (F := blk c u) (V := []) hostT _ (snlO c n gp (some ⟨go, 0, none⟩) m cp co wb gr rn rc i q u.p u.d.k u.d.r u.d.v u.d.tr u.d.ld u.d.saw u.wa u.d.was.length u.wc u.na u.d.now.length u.nc u.d.over u.d.clean u.d.coll u.ra u.d.ans.length u.rc) snlO1_n (snlO1_1 c n gp (some ⟨go, 0, none⟩) m cp co wb gr rn rc i q u.p u.d.k u.d.r u.d.v u.d.tr u.d.ld u.d.saw u.wa u.d.was.length u.wc u.na u.d.now.length u.nc u.d.over u.d.clean u.d.coll u.ra u.d.ans.length u.rc) (snlO1_2 c n gp (some ⟨go, 0, none⟩) m cp co wb gr rn rc i q u.p u.d.k u.d.r u.d.v u.d.tr u.d.ld u.d.saw u.wa u.d.was.length u.wc u.na u.d.now.length u.nc u.d.over u.d.clean u.d.coll u.ra u.d.ans.length u.rc) _ (hF2) (ops2) (Looks.nil W) no_old no_ros rfl ?_ (fun _ _ => rfl) (fun _ _ => rfl) (fun _ _ => rfl) hfr5 fun ν j a6 w6 hfr6 hr6 => ?_
      · simp [snlO1_o, hlt, hqm, hov]
      · have e5 : reV [⟨ordV (some ⟨gr, 0, none⟩) rn rc os, gr, elC 1 i [(0, .int .i64 q)]⟩, ⟨sptrs (some ⟨gp, 0, none⟩) m cp PS, gp, elC 1 q [(0, ptrV u.p)]⟩] (snlO1_o c n gp (some ⟨go, 0, none⟩) m cp co wb gr rn rc i q u.p u.d.k u.d.r u.d.v u.d.tr u.d.ld u.d.saw u.wa u.d.was.length u.wc u.na u.d.now.length u.nc u.d.over u.d.clean u.d.coll u.ra u.d.ans.length u.rc ν j).2.2.loose = [ordV (some ⟨gr, 0, none⟩) rn rc os, sptrs (some ⟨gp, 0, none⟩) m cp PS] := Sy.re_same (l0 := []) ops2
        rw [e5] at hr6
        have hr6' := (show Res W NoOld (blk c u ++ (snB c cb ws n ++ FE)) [] (ordV (some ⟨gr, 0, none⟩) rn rc os :: sptrs (some ⟨gp, 0, none⟩) m cp PS :: wordsV ws n n n (xs.map u64V) :: sopsV (some ⟨go, 0, none⟩) m co OS :: nregs wb n n (nums xs) :: VC) w6 from hr6).perm pS.symm (.cons _ (.swap ..))
        simp only [snlO1_o, hws] at hfr6
        exact out (by rw [hturn, if_pos hov]) (Sy.Fr.less (show Fr Tryd.f6.ntmps (snlR c n (some ⟨gp, 0, none⟩) (some ⟨go, 0, none⟩) m cp co wb (some ⟨gr, 0, none⟩) rn rc (i + 1) q) a6 from hfr6) sub_PR) hr6'
    | false =>
      refine Res.segO (F := blk c u) (V := []) hostT _ (snlO c n gp (some ⟨go, 0, none⟩) m cp co wb gr rn rc i q u.p u.d.k u.d.r u.d.v u.d.tr u.d.ld u.d.saw u.wa u.d.was.length u.wc u.na u.d.now.length u.nc u.d.over u.d.clean u.d.coll u.ra u.d.ans.length u.rc) snlO2_n (snlO2_1 c n gp (some ⟨go, 0, none⟩) m cp co wb gr rn rc i q u.p u.d.k u.d.r u.d.v u.d.tr u.d.ld u.d.saw u.wa u.d.was.length u.wc u.na u.d.now.length u.nc u.d.over u.d.clean u.d.coll u.ra u.d.ans.length u.rc) (snlO2_2 c n gp (some ⟨go, 0, none⟩) m cp co wb gr rn rc i q u.p u.d.k u.d.r u.d.v u.d.tr u.d.ld u.d.saw u.wa u.d.was.length u.wc u.na u.d.now.length u.nc u.d.over u.d.clean u.d.coll u.ra u.d.ans.length u.rc) _ (hF2) (ops2) (Looks.nil W) no_old no_ros rfl ?_ (fun _ _ => rfl) (fun _ _ => rfl) (fun _ _ => rfl) hfr5 fun ν j a6 w6 hfr6 hr6 => ?_
      · simp [snlO2_o, hlt, hqm, hov]
      have e5 : reV [⟨ordV (some ⟨gr, 0, none⟩) rn rc os, gr, elC 1 i [(0, .int .i64 q)]⟩, ⟨sptrs (some ⟨gp, 0, none⟩) m cp PS, gp, elC 1 q [(0, ptrV u.p)]⟩] (snlO2_o c n gp (some ⟨go, 0, none⟩) m cp co wb gr rn rc i q u.p u.d.k u.d.r u.d.v u.d.tr u.d.ld u.d.saw u.wa u.d.was.length u.wc u.na u.d.now.length u.nc u.d.over u.d.clean u.d.coll u.ra u.d.ans.length u.rc ν j).2.2.loose = [ordV (some ⟨gr, 0, none⟩) rn rc os, sptrs (some ⟨gp, 0, none⟩) m cp PS] := Sy.re_same (l0 := []) ops2
      rw [e5] at hr6
      have hS6 : St W c cb ws n us (some ⟨gp, 0, none⟩) (some ⟨go, 0, none⟩) m cp co wb (some ⟨gr, 0, none⟩) rn rc os xs (nums xs) w6 := by
        have hr6' := (show Res W NoOld (blk c u ++ (snB c cb ws n ++ FE)) [] (ordV (some ⟨gr, 0, none⟩) rn rc os :: sptrs (some ⟨gp, 0, none⟩) m cp PS :: wordsV ws n n n (xs.map u64V) :: sopsV (some ⟨go, 0, none⟩) m co OS :: nregs wb n n (nums xs) :: VC) w6 from hr6).perm pS.symm (.cons _ (.swap ..))
        rw [hPS, hOS, hFF, hVC] at hr6'
        exact ⟨hr6'.perm (.refl _) q_d.symm, hS.hx, hS.lu, hS.ok⟩
      refine (hS6.step hn1 hlu hu hov).mono ?_
      rintro e w7 ⟨u', hp', hd', rfl, hok', hS7⟩
      refine ⟨_, rfl, ?_⟩
      clear hr6 hS6 hF2 hF1 out e5 ops2 ops1 pS
      have hfr7 := hfr6.put (d := 112) (v := .tuple #[(nxt n xs u.d).2.2, .bool (nxt n xs u.d).2.1.over]) (by decide +kernel) (snlR c n (some ⟨gp, 0, none⟩) (some ⟨go, 0, none⟩) m cp co wb (some ⟨gr, 0, none⟩) rn rc i q) (fun x hx => hx) (by simp [snlR, snlG])
      have hrun2 : Sn.run n st0 (os.take (i + 1)) = ((nxt n xs u.d).1, (us.set q u').map SP.d) := by
        rw [hrun1, hturn, if_neg (by simp [hov]), List.map_set, hd']
      obtain ⟨hk', hr', hv', ht'⟩ := Sn.nxt_key n xs u.d
      rw [← hd'] at hk' hr' hv' ht'
      have hgood := (hS.ok u (List.mem_of_getElem? hu)).good hov
      have hv0 := (hS.ok u (List.mem_of_getElem? hu)).v0
      have hv1 := (hS.ok u (List.mem_of_getElem? hu)).v1
      have hu' : (us.set q u')[q]? = some u' := List.getElem?_set_self (List.getElem?_eq_some_iff.1 hu).1
      clear hPS hOS hFF hVC hFE
      obtain ⟨us', hus'⟩ : ∃ us', us' = us.set q u' := ⟨_, rfl⟩
      rw [← hus'] at hu' hrun2 hS7 hok'
      have hF3 : Res W NoOld ([] ++ (snB c cb ws n ++ us'.flatMap (blk c))) [] ([] ++ ([sopsV (some ⟨go, 0, none⟩) m co (us'.flatMap oR)] ++ (wordsV ws n n n ((nxt n xs u.d).1.map u64V) :: sptrs (some ⟨gp, 0, none⟩) m cp (us'.map pV) :: nregs wb n n (nums xs) :: ordV (some ⟨gr, 0, none⟩) rn rc os :: us'.flatMap vcs))) w7 := hS7.res.perm (.refl _) q_o
      have ops3 : ∀ o ∈ ([⟨sopsV (some ⟨go, 0, none⟩) m co (us'.flatMap oR), go, elC 4 q [(0, .int .u8 u'.d.k)]⟩] : List Sy.Open), OpenOk o := opens_cons (opK rfl hu') opens_nil
      obtain ⟨OS, hOS⟩ : ∃ OS, OS = us'.flatMap oR := ⟨_, rfl⟩
      obtain ⟨PS, hPS⟩ : ∃ PS, PS = us'.map pV := ⟨_, rfl⟩
      obtain ⟨FF, hFF⟩ : ∃ FF, FF = us'.flatMap (blk c) := ⟨_, rfl⟩
      obtain ⟨VC, hVC⟩ : ∃ VC, VC = us'.flatMap vcs := ⟨_, rfl⟩
      rw [← hOS, ← hPS, ← hFF, ← hVC] at hF3
      rw [← hOS] at ops3
      have fin : ∀ {w8 : World} {a8 : Act}, (nxt n xs u.d).1 = xs → Fr Tryd.f6.ntmps (snlP c n (some ⟨gp, 0, none⟩) (some ⟨go, 0, none⟩) m cp co wb (some ⟨gr, 0, none⟩) rn rc (i + 1)) a8 → Res W NoOld ([] ++ (snB c cb ws n ++ FF)) [] (sopsV (some ⟨go, 0, none⟩) m co OS :: wordsV ws n n n ((nxt n xs u.d).1.map u64V) :: sptrs (some ⟨gp, 0, none⟩) m cp PS :: nregs wb n n (nums xs) :: ordV (some ⟨gr, 0, none⟩) rn rc os :: VC) w8 → Y3 24 a8 w8 := fun {w8 a8} hx hfr hr => by
        rw [hOS, hPS, hFF, hVC] at hr
        refine hY3 (rn - (i + 1)) a8 w8 (by omega) ⟨i + 1, us', _, rfl, hlt, hrun2.symm, hfr, ⟨?_, hS7.hx, hS7.lu, hok'⟩⟩
        rw [show nums (nxt n xs u.d).1 = nums xs by rw [hx]]
        exact hr.perm (.refl _) q_o.symm
      by_cases hk1 : u.d.k = 1
      · by_cases hld : u.d.ld = true
        · by_cases hsw : seeAt xs u.d.r = u.d.saw
          · have hN : nxt n xs u.d = (putAt xs u.d.r (wd u.d.saw u.d.v), { u.d with ld := false, over := true, ans := [wd u.d.saw u.d.v] }, did 5 u.d.r (seeAt xs u.d.r) (wd u.d.saw u.d.v) true) := by simp [nxt, hk1, hld, hsw]
            have hN1 : (nxt n xs u.d).1 = putAt xs u.d.r (wd u.d.saw u.d.v) := by rw [hN]
            have hN2 : (nxt n xs u.d).2.2 = did 5 u.d.r (seeAt xs u.d.r) (wd u.d.saw u.d.v) true := by rw [hN]
            have hN3 : (nxt n xs u.d).2.1.over = true := by rw [hN]
            rw [hN2, hN3] at hfr7 ⊢
            rw [hN1] at hS7 hrun2
            have hN4 : u'.d = { u.d with ld := false, over := true, ans := [wd u.d.saw u.d.v] } := by rw [hd', hN]
            have hright := hgood.right
            rw [hk1] at hright
            simp [Sn.right] at hright
            obtain ⟨r, hr⟩ : ∃ r : Nat, u.d.r = r := ⟨u.d.r.toNat, by omega⟩
            have hrn : r < n := by omega
            clear hF3 ops3 fin hOS hPS hFF hVC OS PS FF VC hd' hN hN1 hN2 hN3 hrun1 hturn
            have hq0 := snu.flat_focus (f := vcs) hu'
            have hq1 := snu.flat_focus (f := blk c) hu'
            obtain ⟨FE, hFE⟩ : ∃ FE, FE = (us'.eraseIdx q).flatMap (blk c) := ⟨_, rfl⟩
            obtain ⟨VE, hVE⟩ : ∃ VE, VE = (us'.eraseIdx q).flatMap vcs := ⟨_, rfl⟩
            rw [← hVE] at hq0
            rw [← hFE] at hq1
            obtain ⟨d1, p1, wa1, wc1, na1, nc1, ra1, rc1⟩ := u'
            simp only at hp' hN4 hk' hr' hv' ht'
            subst hp' hN4
            have hT0 : Res W NoOld (blk c ⟨{ u.d with ld := false, over := true, ans := [wd u.d.saw u.d.v] }, u.p, wa1, wc1, na1, nc1, ra1, rc1⟩ ++ (snB c cb ws n ++ FE)) [] (wordsV ws n n n ((putAt xs u.d.r (wd u.d.saw u.d.v)).map u64V) :: sptrs (some ⟨gp, 0, none⟩) m cp (us'.map pV) :: sopsV (some ⟨go, 0, none⟩) m co (us'.flatMap oR) :: nregs wb n n (nums xs) :: ordV (some ⟨gr, 0, none⟩) rn rc os :: snst.uV na1 nc1 u.d.now :: snst.uV wa1 wc1 u.d.was :: snst.rV ra1 rc1 [wd u.d.saw u.d.v] :: VE) w7 :=
              hS7.res.perm ((perm_in hq1).trans swp) (.cons _ (.cons _ (.cons _ (.cons _ (.cons _ hq0)))))
            obtain ⟨_, _, hrb⟩ := res_len hT0 (e := 63) (s := 2) (n := 1) (c := rc1) (so := ra1) (xs := regR (wd u.d.saw u.d.v)) (List.mem_cons_of_mem _ (List.mem_cons_of_mem _ (List.mem_cons_of_mem _ (List.mem_cons_of_mem _ (List.mem_cons_of_mem _ (List.mem_cons_of_mem _ (List.mem_cons_of_mem _ (List.mem_cons_self ..))))))))
            obtain ⟨xb, rfl⟩ := hrb (by omega)
            have hblk : blk c ⟨{ u.d with ld := false, over := true, ans := [wd u.d.saw u.d.v] }, u.p, wa1, wc1, na1, nc1, some ⟨xb, 0, none⟩, rc1⟩ = [(u.p, 82, pdV c 1 r u.d.v u.d.tr false u.d.saw wa1 u.d.was.length wc1 na1 u.d.now.length nc1 true u.d.clean u.d.coll (some ⟨xb, 0, none⟩) 1 rc1)] := by
              simp only [blk]
              rw [hk1, hr]
              rfl
            have hT : Res W NoOld ([(u.p, 82, pdV c 1 r u.d.v u.d.tr false u.d.saw wa1 u.d.was.length wc1 na1 u.d.now.length nc1 true u.d.clean u.d.coll (some ⟨xb, 0, none⟩) 1 rc1)] ++ (snB c cb ws n ++ FE)) [] ([nregs wb n n (nums xs), regsV (some ⟨xb, 0, none⟩) 1 rc1 [.int .u32 (num (wd u.d.saw u.d.v)), .int .u32 (vl (wd u.d.saw u.d.v))]] ++ ([sopsV (some ⟨go, 0, none⟩) m co (us'.flatMap oR), sptrs (some ⟨gp, 0, none⟩) m cp (us'.map pV)] ++ (wordsV ws n n n ((putAt xs u.d.r (wd u.d.saw u.d.v)).map u64V) :: ordV (some ⟨gr, 0, none⟩) rn rc os :: snst.uV na1 nc1 u.d.now :: snst.uV wa1 wc1 u.d.was :: VE))) w7 := by
              rw [← hblk]
              exact hT0.perm (.refl _) q_t
            have o1 := opK3 (m := m) (co := co) rfl (so := some ⟨go, 0, none⟩) hu'
            simp only at o1
            rw [hk1, hr] at o1
            have o2 := opP (m := m) (cp := cp) rfl (so := some ⟨gp, 0, none⟩) hu'
            have ops4 : ∀ o ∈ ([⟨sopsV (some ⟨go, 0, none⟩) m co (us'.flatMap oR), go, elC 4 q [(0, .int .u8 1), (1, .int .i64 r), (2, .int .u32 u.d.v)]⟩, ⟨sptrs (some ⟨gp, 0, none⟩) m cp (us'.map pV), gp, elC 1 q [(0, ptrV u.p)]⟩] : List Sy.Open), OpenOk o := opens_cons o1 (opens_cons o2 opens_nil)
            have hxr : r < xs.length := by rw [hS.hx]; exact hrn
            have hsr : xs.getD r 0 = u.d.saw := by rw [← hsw, hr]; rfl
            have hZ : ((nums xs).set (r * 2) (IntKind.u32.wrap ((nums xs).getD (r * 2) 0 + 1))).set (r * 2 + 1) u.d.v = nums (putAt xs u.d.r (wd u.d.saw u.d.v)) := by
              unfold putAt
              rw [hr, Int.toNat_natCast, nums_set _ hxr, (nums_get hxr).1, hsr, Sn.num_wd hv0 hv1, Sn.vl_wd hv0 hv1]
            have hZ0 := (nums_get (xs := putAt xs u.d.r (wd u.d.saw u.d.v)) (r := r) (by unfold putAt; rw [List.length_set]; exact hxr))
            rw [← hZ, show (putAt xs u.d.r (wd u.d.saw u.d.v)).getD r 0 = wd u.d.saw u.d.v by unfold putAt; rw [hr, Int.toNat_natCast, List.getD_eq_getElem?_getD, List.getElem?_set_self hxr]; rfl] at hZ0
            have hnl : (nums xs).length = n * 2 := by rw [nums_len, hS.hx]
            obtain ⟨OS, hOS⟩ : ∃ OS, OS = us'.flatMap oR := ⟨_, rfl⟩
            obtain ⟨PS, hPS⟩ : ∃ PS, PS = us'.map pV := ⟨_, rfl⟩
            rw [← hOS, ← hPS] at hT ops4
            refine Res.segO (V := [nregs wb n n (nums xs), regsV (some ⟨xb, 0, none⟩) 1 rc1 [.int .u32 (num (wd u.d.saw u.d.v)), .int .u32 (vl (wd u.d.saw u.d.v))]]) hostV _ (snlT c n gp go m cp co wb (some ⟨gr, 0, none⟩) rn rc i q u.p r u.d.v u.d.tr false u.d.r (seeAt xs u.d.r) (wd u.d.saw u.d.v) u.d.saw wa1 u.d.was.length wc1 na1 u.d.now.length nc1 u.d.clean u.d.coll xb rc1 (num (wd u.d.saw u.d.v)) (vl (wd u.d.saw u.d.v)) (nums xs)) snlT1_n (snlT1_1 c n gp go m cp co wb (some ⟨gr, 0, none⟩) rn rc i q u.p r u.d.v u.d.tr false u.d.r (seeAt xs u.d.r) (wd u.d.saw u.d.v) u.d.saw wa1 u.d.was.length wc1 na1 u.d.now.length nc1 u.d.clean u.d.coll xb rc1 (num (wd u.d.saw u.d.v)) (vl (wd u.d.saw u.d.v)) (nums xs)) (snlT1_2 c n gp go m cp co wb (some ⟨gr, 0, none⟩) rn rc i q u.p r u.d.v u.d.tr false u.d.r (seeAt xs u.d.r) (wd u.d.saw u.d.v) u.d.saw wa1 u.d.was.length wc1 na1 u.d.now.length nc1 u.d.clean u.d.coll xb rc1 (num (wd u.d.saw u.d.v)) (vl (wd u.d.saw u.d.v)) (nums xs)) _ (hT) (ops4) (Looks.nil W) no_old no_ros rfl ?_ (fun _ _ => rfl) (fun _ _ => rfl) (fun _ _ => rfl) hfr7 fun ν j a8 w8 hfr8 hr8 => ?_
            · simp only [snlT1_o, set_u32, isK_u32, valI_u32, sadd_eq, smul_eq, Nat.zero_add, Int.toNat_natCast, List.length_map, List.length_set, hZ0.1, hZ0.2]
              simp [valI, hnl, hrn, hqm, Nat.blt_eq]
              omega
            · obtain ⟨o, ho⟩ : ∃ o, o = snlT1_o c n gp go m cp co wb (some ⟨gr, 0, none⟩) rn rc i q u.p r u.d.v u.d.tr false u.d.r (seeAt xs u.d.r) (wd u.d.saw u.d.v) u.d.saw wa1 u.d.was.length wc1 na1 u.d.now.length nc1 u.d.clean u.d.coll xb rc1 (num (wd u.d.saw u.d.v)) (vl (wd u.d.saw u.d.v)) (nums xs) ν j := ⟨_, rfl⟩
              have e0 : o.1 = .again 24 := by rw [ho]; rfl
              have e6 : o.2.2.loose = opsL [⟨sopsV (some ⟨go, 0, none⟩) m co OS, go, elC 4 q [(0, .int .u8 1), (1, .int .i64 r), (2, .int .u32 u.d.v)]⟩, ⟨sptrs (some ⟨gp, 0, none⟩) m cp PS, gp, elC 1 q [(0, ptrV u.p)]⟩] [] := by rw [ho]; rfl
              obtain ⟨g3, c3, e1, e2, e3, e4⟩ : ∃ g3 c3, o.2.1 = snlP c n (some ⟨gp, 0, none⟩) (some ⟨go, 0, none⟩) m cp co wb (some ⟨gr, 0, none⟩) rn rc (i + 1) ∧ o.2.2.news = [] ∧ o.2.2.blocks = [(u.p, 82, pdV c 1 r u.d.v u.d.tr false u.d.saw wa1 u.d.was.length wc1 na1 u.d.now.length nc1 true u.d.clean u.d.coll (some ⟨xb, 0, none⟩) 1 rc1)] ∧ o.2.2.vecs = [nregs wb n n (nums (putAt xs u.d.r (wd u.d.saw u.d.v))), regsV (some ⟨xb, 0, none⟩) 1 rc1 [.int .u32 (num (wd u.d.saw u.d.v)), .int .u32 (vl (wd u.d.saw u.d.v))], regsV (some ⟨g3, 0, none⟩) 1 c3 [.int .u32 (num (wd u.d.saw u.d.v)), .int .u32 (vl (wd u.d.saw u.d.v))]] := by
                rw [ho, ← hZ]
                simp only [snlT1_o, hws, set_u32, valI_u32, sadd_eq, smul_eq, Nat.zero_add, Int.toNat_natCast]
                exact ⟨_, _, rfl, trivial, rfl, rfl⟩
              rw [← ho] at hfr8 hr8
              rw [← ho, e0]
              rw [e1] at hfr8
              rw [e2, e3, e4, e6, Sy.re_same ops4] at hr8
              have hr9 : Res W NoOld ([(u.p, 82, pdV c 1 r u.d.v u.d.tr false u.d.saw wa1 u.d.was.length wc1 na1 u.d.now.length nc1 true u.d.clean u.d.coll (some ⟨xb, 0, none⟩) 1 rc1)] ++ (snB c cb ws n ++ FE)) [] (nregs wb n n (nums (putAt xs u.d.r (wd u.d.saw u.d.v))) :: snst.rV (some ⟨xb, 0, none⟩) rc1 [wd u.d.saw u.d.v] :: sopsV (some ⟨go, 0, none⟩) m co OS :: sptrs (some ⟨gp, 0, none⟩) m cp PS :: wordsV ws n n n ((putAt xs u.d.r (wd u.d.saw u.d.v)).map u64V) :: ordV (some ⟨gr, 0, none⟩) rn rc os :: snst.uV na1 nc1 u.d.now :: snst.uV wa1 wc1 u.d.was :: VE) w8 :=
                hr8.less (.refl _) (.refl _) (.cons_cons _ (.cons_cons _ (.cons _ (.refl _))))
              rw [← hblk] at hr9
              have hr10 := hr9.perm ((perm_in hq1).trans swp).symm (q_t.symm.trans (.cons _ (.cons _ (.cons _ (.cons _ (.cons _ hq0.symm))))))
              rw [hOS, hPS] at hr10
              exact hY3 (rn - (i + 1)) a8 w8 (by omega) ⟨i + 1, us', _, rfl, hlt, hrun2.symm, hfr8, ⟨hr10, hS7.hx, hS7.lu, hok'⟩⟩
          · have hN : nxt n xs u.d = (xs, { u.d with ld := false }, did 5 u.d.r (seeAt xs u.d.r) (seeAt xs u.d.r) false) := by simp [nxt, hk1, hld, hsw]
            have hN2 : (nxt n xs u.d).2.2 = did 5 u.d.r (seeAt xs u.d.r) (seeAt xs u.d.r) false := by rw [hN]
            have hN3 : (nxt n xs u.d).2.1.over = u.d.over := by rw [hN]
            rw [hN2, hN3] at hfr7 ⊢
            refine Res.segO (F := []) (V := []) hostT _ (snlS c n (some ⟨gp, 0, none⟩) go m cp co wb (some ⟨gr, 0, none⟩) rn rc i q u'.d.k 5 u.d.r (seeAt xs u.d.r) (seeAt xs u.d.r) false u.d.over) snlS3_n (snlS3_1 c n (some ⟨gp, 0, none⟩) go m cp co wb (some ⟨gr, 0, none⟩) rn rc i q u'.d.k 5 u.d.r (seeAt xs u.d.r) (seeAt xs u.d.r) false u.d.over) (snlS3_2 c n (some ⟨gp, 0, none⟩) go m cp co wb (some ⟨gr, 0, none⟩) rn rc i q u'.d.k 5 u.d.r (seeAt xs u.d.r) (seeAt xs u.d.r) false u.d.over) _ (hF3) (ops3) (Looks.nil W) no_old no_ros rfl ?_ (fun _ _ => rfl) (fun _ _ => rfl) (fun _ _ => rfl) hfr7 fun ν j a8 w8 hfr8 hr8 => ?_
            · simp [snlS3_o, hqm, hk', hk1, hov]
            · have e5 : reV [⟨sopsV (some ⟨go, 0, none⟩) m co OS, go, elC 4 q [(0, .int .u8 u'.d.k)]⟩] (snlS3_o c n (some ⟨gp, 0, none⟩) go m cp co wb (some ⟨gr, 0, none⟩) rn rc i q u'.d.k 5 u.d.r (seeAt xs u.d.r) (seeAt xs u.d.r) false u.d.over ν j).2.2.loose = [sopsV (some ⟨go, 0, none⟩) m co OS] := Sy.re_same (l0 := []) ops3
              rw [e5] at hr8
              simp only [snlS3_o, hws] at hfr8
              exact fin (by rw [hN]) hfr8 hr8
        · have hN : nxt n xs u.d = (xs, { u.d with ld := true, saw := seeAt xs u.d.r }, did 1 u.d.r (seeAt xs u.d.r) (seeAt xs u.d.r) true) := by simp [nxt, hk1, hld]
          have hN2 : (nxt n xs u.d).2.2 = did 1 u.d.r (seeAt xs u.d.r) (seeAt xs u.d.r) true := by rw [hN]
          have hN3 : (nxt n xs u.d).2.1.over = u.d.over := by rw [hN]
          rw [hN2, hN3] at hfr7 ⊢
          refine Res.segO (F := []) (V := []) hostT _ (snlS c n (some ⟨gp, 0, none⟩) go m cp co wb (some ⟨gr, 0, none⟩) rn rc i q u'.d.k 1 u.d.r (seeAt xs u.d.r) (seeAt xs u.d.r) true u.d.over) snlS2_n (snlS2_1 c n (some ⟨gp, 0, none⟩) go m cp co wb (some ⟨gr, 0, none⟩) rn rc i q u'.d.k 1 u.d.r (seeAt xs u.d.r) (seeAt xs u.d.r) true u.d.over) (snlS2_2 c n (some ⟨gp, 0, none⟩) go m cp co wb (some ⟨gr, 0, none⟩) rn rc i q u'.d.k 1 u.d.r (seeAt xs u.d.r) (seeAt xs u.d.r) true u.d.over) _ (hF3) (ops3) (Looks.nil W) no_old no_ros rfl ?_ (fun _ _ => rfl) (fun _ _ => rfl) (fun _ _ => rfl) hfr7 fun ν j a8 w8 hfr8 hr8 => ?_
          · simp [snlS2_o, hqm, hk', hk1, hov]
          · have e5 : reV [⟨sopsV (some ⟨go, 0, none⟩) m co OS, go, elC 4 q [(0, .int .u8 u'.d.k)]⟩] (snlS2_o c n (some ⟨gp, 0, none⟩) go m cp co wb (some ⟨gr, 0, none⟩) rn rc i q u'.d.k 1 u.d.r (seeAt xs u.d.r) (seeAt xs u.d.r) true u.d.over ν j).2.2.loose = [sopsV (some ⟨go, 0, none⟩) m co OS] := Sy.re_same (l0 := []) ops3
            rw [e5] at hr8
            simp only [snlS2_o, hws] at hfr8
            exact fin (by rw [hN]) hfr8 hr8
      · obtain ⟨hxx, cell, x, hN2⟩ := Sn.nxt_load (n := n) (xs := xs) hk1
        rw [hN2] at hfr7 ⊢
        refine Res.segO (F := []) (V := []) hostT _ (snlS c n (some ⟨gp, 0, none⟩) go m cp co wb (some ⟨gr, 0, none⟩) rn rc i q u'.d.k 1 cell x x true (nxt n xs u.d).2.1.over) snlS1_n (snlS1_1 c n (some ⟨gp, 0, none⟩) go m cp co wb (some ⟨gr, 0, none⟩) rn rc i q u'.d.k 1 cell x x true (nxt n xs u.d).2.1.over) (snlS1_2 c n (some ⟨gp, 0, none⟩) go m cp co wb (some ⟨gr, 0, none⟩) rn rc i q u'.d.k 1 cell x x true (nxt n xs u.d).2.1.over) _ (hF3) (ops3) (Looks.nil W) no_old no_ros rfl ?_ (fun _ _ => rfl) (fun _ _ => rfl) (fun _ _ => rfl) hfr7 fun ν j a8 w8 hfr8 hr8 => ?_
        · simp [snlS1_o, hqm, hk', hk1]
        · have e5 : reV [⟨sopsV (some ⟨go, 0, none⟩) m co OS, go, elC 4 q [(0, .int .u8 u'.d.k)]⟩] (snlS1_o c n (some ⟨gp, 0, none⟩) go m cp co wb (some ⟨gr, 0, none⟩) rn rc i q u'.d.k 1 cell x x true (nxt n xs u.d).2.1.over ν j).2.2.loose = [sopsV (some ⟨go, 0, none⟩) m co OS] := Sy.re_same (l0 := []) ops3
          rw [e5] at hr8
          simp only [snlS1_o, hws] at hfr8
          exact fin hxx hfr8 hr8
  have hir : i = rn := by omega
  have hput : ∀ (i : Nat) (u : SP), us[i]? = some u → u.d.k = 1 → u.d.over = true := fun i' u hu hk => by
    have hr := hrun
    rw [hir, hrn, List.take_length, hos] at hr
    have := Sn.run_all (n := n) (st := st0) (l := ks) (f := f) m (fun j _ => hf2 j) i' (by have := (List.getElem?_eq_some_iff.1 hu).1; rw [hS.lu] at this; exact this)
    rw [← hr] at this
    exact this u.d (by simp [hu]) hk
  have hd2 : ¬ (i : Int) < rn := by omega
  obtain ⟨PS, hPS⟩ : ∃ PS, PS = us.map pV := ⟨_, rfl⟩
  obtain ⟨OS, hOS⟩ : ∃ OS, OS = us.flatMap oR := ⟨_, rfl⟩
  obtain ⟨FF, hFF⟩ : ∃ FF, FF = us.flatMap (blk c) := ⟨_, rfl⟩
  obtain ⟨VC, hVC⟩ : ∃ VC, VC = us.flatMap vcs := ⟨_, rfl⟩
  have hR5 := hS.res
  rw [← hPS, ← hOS, ← hFF, ← hVC] at hR5
  have hlus := hS.lu
  refine Res.segV (F := []) (V := []) hostT _ (snlU c n sp so m cp co wb ra rn rc i) snlU1_n (snlU1_1 c n sp so m cp co wb ra rn rc i) (snlU1_2 c n sp so m cp co wb ra rn rc i) (hR5) (Looks.nil W) no_old no_ros rfl ?_ (fun _ _ => rfl) (fun _ _ => rfl) hfr5 fun ν j a6 w6 hfr6 hr6 => ?_
  · simp [snlU1_o, hd2]
  have hfr8 : Fr Tryd.f6.ntmps (snlQ c n sp so m cp co wb 0) a6 := hfr6
  have hr8 : Res W NoOld (snB c cb ws n ++ FF) [] (wordsV ws n n n (xs.map u64V) :: sptrs sp m cp PS :: sopsV so m co OS :: nregs wb n n (nums xs) :: ordV ra rn rc os :: VC) w6 := hr6
  refine loop_after (i := 40) (by kernel_rfl) (fun d a w1 => ∃ (i : Nat), d = m - i ∧ i ≤ m ∧ Fr Tryd.f6.ntmps (snlQ c n sp so m cp co wb i) a ∧ Res W NoOld (snB c cb ws n ++ FF) [] (wordsV ws n n n (xs.map u64V) :: sptrs sp m cp PS :: sopsV so m co OS :: nregs wb n n (nums xs) :: ordV ra rn rc os :: VC) w1) m ⟨0, rfl, Nat.zero_le _, hfr8, hr8⟩ ?_
  clear hr8 hfr8 hr6 hfr6 hR5 hfr5
  rintro d a7 w7 ⟨i, rfl, hi7, hfr7, hr7⟩ Y4 hY4 _
  by_cases hlt4 : i < m
  · obtain ⟨u, hu⟩ : ∃ u, us[i]? = some u := ⟨_, List.getElem?_eq_getElem (by omega)⟩
    have hwi : IntKind.i64.wrap ((i : Int) + 1) = ((i + 1 : Nat) : Int) := by rw [wrap_i64 (by omega) (by omega)]; simp
    obtain ⟨_, _, hso⟩ := res_len hr7 (e := 37) (s := 4) (n := m) (c := co) (so := so) (xs := OS) (List.mem_cons_of_mem _ (List.mem_cons_of_mem _ (List.mem_cons_self ..)))
    obtain ⟨go, rfl⟩ := hso (by omega)
    obtain ⟨_, _, hsp⟩ := res_len hr7 (e := 31) (s := 1) (n := m) (c := cp) (so := sp) (xs := PS) (List.mem_cons_of_mem _ (List.mem_cons_self ..))
    obtain ⟨gp, rfl⟩ := hsp (by omega)
    have o1 := opK (m := m) (co := co) (so := some ⟨go, 0, none⟩) rfl hu
    have o2 := opP (m := m) (cp := cp) (so := some ⟨gp, 0, none⟩) rfl hu
    rw [← hOS] at o1
    rw [← hPS] at o2
    by_cases hk1 : u.d.k = 1
    · have hov := hput i u hu hk1
      have pS : (snB c cb ws n ++ us.flatMap (blk c)).Perm (blk c u ++ (snB c cb ws n ++ (us.eraseIdx i).flatMap (blk c))) := (perm_in (snu.flat_focus hu)).trans swp
      obtain ⟨FE, hFE⟩ : ∃ FE, FE = (us.eraseIdx i).flatMap (blk c) := ⟨_, rfl⟩
      rw [← hFE, ← hFF] at pS
      have hF : Res W NoOld (blk c u ++ (snB c cb ws n ++ FE)) [] ([] ++ ([sopsV (some ⟨go, 0, none⟩) m co OS, sptrs (some ⟨gp, 0, none⟩) m cp PS] ++ (wordsV ws n n n (xs.map u64V) :: nregs wb n n (nums xs) :: ordV ra rn rc os :: VC))) w7 := hr7.perm pS q_op
      have ops : ∀ o ∈ ([⟨sopsV (some ⟨go, 0, none⟩) m co OS, go, elC 4 i [(0, .int .u8 u.d.k)]⟩, ⟨sptrs (some ⟨gp, 0, none⟩) m cp PS, gp, elC 1 i [(0, ptrV u.p)]⟩] : List Sy.Open), OpenOk o := opens_cons o1 (opens_cons o2 opens_nil)
      refine Res.segO (F := blk c u) (V := []) hostT _ (snlW c n gp go m cp co wb i u.p u.d.k u.d.r u.d.v u.d.tr u.d.ld u.d.saw u.wa u.d.was.length u.wc u.na u.d.now.length u.nc u.d.over u.d.clean u.d.coll u.ra u.d.ans.length u.rc) snlW1_n (snlW1_1 c n gp go m cp co wb i u.p u.d.k u.d.r u.d.v u.d.tr u.d.ld u.d.saw u.wa u.d.was.length u.wc u.na u.d.now.length u.nc u.d.over u.d.clean u.d.coll u.ra u.d.ans.length u.rc) (snlW1_2 c n gp go m cp co wb i u.p u.d.k u.d.r u.d.v u.d.tr u.d.ld u.d.saw u.wa u.d.was.length u.wc u.na u.d.now.length u.nc u.d.over u.d.clean u.d.coll u.ra u.d.ans.length u.rc) _ (hF) (ops) (Looks.nil W) no_old no_ros rfl ?_ (fun _ _ => rfl) (fun _ _ => rfl) (fun _ _ => rfl) hfr7 fun ν j a6 w6 hfr6 hr6 => ?_
      · simp [snlW1_o, hlt4, hk1, hov]
      · have e5 : reV [⟨sopsV (some ⟨go, 0, none⟩) m co OS, go, elC 4 i [(0, .int .u8 u.d.k)]⟩, ⟨sptrs (some ⟨gp, 0, none⟩) m cp PS, gp, elC 1 i [(0, ptrV u.p)]⟩] (snlW1_o c n gp go m cp co wb i u.p u.d.k u.d.r u.d.v u.d.tr u.d.ld u.d.saw u.wa u.d.was.length u.wc u.na u.d.now.length u.nc u.d.over u.d.clean u.d.coll u.ra u.d.ans.length u.rc ν j).2.2.loose = [sopsV (some ⟨go, 0, none⟩) m co OS, sptrs (some ⟨gp, 0, none⟩) m cp PS] := Sy.re_same (l0 := []) ops
        rw [e5] at hr6
        have hr8 := (show Res W NoOld (blk c u ++ (snB c cb ws n ++ FE)) [] (sopsV (some ⟨go, 0, none⟩) m co OS :: sptrs (some ⟨gp, 0, none⟩) m cp PS :: wordsV ws n n n (xs.map u64V) :: nregs wb n n (nums xs) :: ordV ra rn rc os :: VC) w6 from hr6).perm pS.symm q_op.symm
        simp only [snlW1_o, hwi] at hfr6
        exact hY4 (m - (i + 1)) a6 w6 (by omega) ⟨i + 1, rfl, hlt4, hfr6, hr8⟩
    · have hF : Res W NoOld ([] ++ (snB c cb ws n ++ FF)) [] ([] ++ ([sopsV (some ⟨go, 0, none⟩) m co OS] ++ (wordsV ws n n n (xs.map u64V) :: sptrs (some ⟨gp, 0, none⟩) m cp PS :: nregs wb n n (nums xs) :: ordV ra rn rc os :: VC))) w7 := hr7.perm (.refl _) q_o
      have ops : ∀ o ∈ ([⟨sopsV (some ⟨go, 0, none⟩) m co OS, go, elC 4 i [(0, .int .u8 u.d.k)]⟩] : List Sy.Open), OpenOk o := opens_cons o1 opens_nil
      refine Res.segO (F := []) (V := []) hostT _ (snlV c n (some ⟨gp, 0, none⟩) go m cp co wb i u.d.k) snlV1_n (snlV1_1 c n (some ⟨gp, 0, none⟩) go m cp co wb i u.d.k) (snlV1_2 c n (some ⟨gp, 0, none⟩) go m cp co wb i u.d.k) _ (hF) (ops) (Looks.nil W) no_old no_ros rfl ?_ (fun _ _ => rfl) (fun _ _ => rfl) (fun _ _ => rfl) hfr7 fun ν j a6 w6 hfr6 hr6 => ?_
      · simp [snlV1_o, hlt4, hk1]
      · have e5 : reV [⟨sopsV (some ⟨go, 0, none⟩) m co OS, go, elC 4 i [(0, .int .u8 u.d.k)]⟩] (snlV1_o c n (some ⟨gp, 0, none⟩) go m cp co wb i u.d.k ν j).2.2.loose = [sopsV (some ⟨go, 0, none⟩) m co OS] := Sy.re_same (l0 := []) ops
        rw [e5] at hr6
        have hr8 := (show Res W NoOld (snB c cb ws n ++ FF) [] (sopsV (some ⟨go, 0, none⟩) m co OS :: wordsV ws n n n (xs.map u64V) :: sptrs (some ⟨gp, 0, none⟩) m cp PS :: nregs wb n n (nums xs) :: ordV ra rn rc os :: VC) w6 from hr6).perm (.refl _) q_o.symm
        simp only [snlV1_o, hwi] at hfr6
        exact hY4 (m - (i + 1)) a6 w6 (by omega) ⟨i + 1, rfl, hlt4, hfr6, hr8⟩
  have hd4 : ¬ (i : Int) < m := by omega
  have hX : Res W NoOld (snB c cb ws n ++ FF) [] ([wordsV ws n n n (xs.map u64V), nregs wb n n (nums xs)] ++ (sptrs sp m cp PS :: sopsV so m co OS :: ordV ra rn rc os :: VC)) w7 := hr7.perm (.refl _) q_wr
  refine Res.segV (F := snB c cb ws n) (V := [wordsV ws n n n (xs.map u64V), nregs wb n n (nums xs)]) hostT _ (snlX c cb ws n xs sp so m cp co wb i (nums xs)) snlX1_n (snlX1_1 c cb ws n xs sp so m cp co wb i (nums xs)) (snlX1_2 c cb ws n xs sp so m cp co wb i (nums xs)) (hX) (Looks.nil W) no_old no_ros rfl ?_ (fun _ _ => rfl) (fun _ _ => rfl) hfr7 fun ν j a6 w6 hfr6 hr6 => ?_
  · simp only [snlX1_o, all_u64, all_u32, map_valU, regs_all]
    simp [hd4, Nat.blt_eq, Nat.ble_eq, hn0]
    omega
  · refine ⟨?_, res_old hr6⟩
    simp only [snlX1_o, map_valU, regs_val, map_valU32]
    simp
end Go.Proofs.YtmihblocomnfjaaDoor.slost
