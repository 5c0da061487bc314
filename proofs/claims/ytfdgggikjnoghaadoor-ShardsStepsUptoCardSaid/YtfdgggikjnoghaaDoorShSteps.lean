/- ShardsSteps: the walk whole. -/
import Derived.Test.YtfdgggikjnoghaaDoorShLA
import Derived.Test.YtfdgggikjnoghaaDoorShOp
namespace Go.Proofs.YtfdgggikjnoghaaDoor.steps
open Go Sy Close
set_option maxRecDepth 100000
open Sk (RU RGood)

theorem body : Tryd.f5.body = some (codeOf Tryd.f5) := by kernel_rfl
theorem ntmps : 3 ≤ Tryd.f5.ntmps := by decide +kernel
/-- The objects of an operation under way. -/
def fB (c n : Nat) (r : RU) (q : Nat × Nat × Nat) : Bks := pendB c r.k r.w r.b (Sk.akOf r.k) (Sk.abOf r.k r.b) (Sk.cellOf n r.k r.w + r.at_) (Sk.lastOf n r.k r.w) r.sum (Sk.ended n r) q.1 q.2.1 q.2.2
def pV (q : Nat × Nat × Nat) : Value := ptrV q.1
structure I1 (W : World) (c cb ws n : Nat) (us : List RU) (qs : List (Nat × Nat × Nat)) (su sp : Option Addr) (m cu cp : Nat) (w : World) : Prop where
  res : Res W NoOld (cntB c cb ws n ++ famB (fB c n) us qs) [] ([unders su m cu (us.flatMap RU.row), ptrs sp m cp (qs.map pV)] ++ [wordsV ws n n n ((List.replicate n (0 : Int)).map u64V)]) w
  lu : us.length = m
  lq : qs.length = m
  good : ∀ r ∈ us, RGood n r
structure I2 (W : World) (c cb ws n : Nat) (us : List RU) (qs : List (Nat × Nat × Nat)) (su sp : Option Addr) (m cu cp gc cc : Nat) (xs : List Int) (w : World) : Prop where
  res : Res W NoOld (cntB c cb ws n ++ famB (fB c n) us qs) [] ([wordsV ws n n n (xs.map u64V), u64sV (some ⟨gc, 0, none⟩) n cc (xs.map u64V)] ++ [unders su m cu (us.flatMap RU.row), ptrs sp m cp (qs.map pV)]) w
  lu : us.length = m
  lq : qs.length = m
  good : ∀ r ∈ us, RGood n r
  inU : Sk.InU xs
theorem many_pos' {n : Nat} {k : Int} (hn : 0 < n) (hm : n ≤ 64) : 1 ≤ manyOf n k ∧ manyOf n k ≤ 65536 := Sk.many_pos hn (by omega)
theorem calls {W : World} (n : Int) {oa : Option Addr} {on oc : Nat} {l : List shop.Op} {sa : Option Addr} {sn sc : Nat} {ks : List Int} (hl : l.length = on) (hcap : on ≤ oc) (hmax : oc ≤ maxLen) (hel : ∀ i y, l[i]? = some y → Elem W oa 3 i y.row)
    (hl2 : ks.length = sn) (hcap2 : sn ≤ sc) (hmax2 : sc ≤ maxLen) (hel2 : ∀ i y, ks[i]? = some y → Elem W sa 1 i (intRow y)) (hb : on ≤ 1048576) (hU : UsesAt W) :
    Calls Tryd.prog 5 #[.int .i64 n, .slice oa on oc, .slice sa sn sc] W (Done W) := by
  have hlu := looksUses hU
  refine calls_after (X := fun _ _ _ => False) Tryd.func5 body ntmps fun a1 ha => ?_
  by_cases h1 : 1 ≤ n ∧ n ≤ 64
  rotate_left
  · by_cases h2 : n < 1
    · refine Res.segV (F := []) (GF := []) (V := []) (GV := []) host5 _ (stsA n oa on oc sa sn sc) stsA1_n (stsA1_1 n oa on oc sa sn sc) (stsA1_2 n oa on oc sa sn sc) Res.start hlu no_old rfl ?_ (fun _ _ => rfl) (fun _ _ => rfl) ha fun ν j a' w' _ hr => ⟨rfl, res_old hr⟩
      simp [stsA1_o]; omega
    · refine Res.segV (F := []) (GF := []) (V := []) (GV := []) host5 _ (stsA n oa on oc sa sn sc) stsA2_n (stsA2_1 n oa on oc sa sn sc) (stsA2_2 n oa on oc sa sn sc) Res.start hlu no_old rfl ?_ (fun _ _ => rfl) (fun _ _ => rfl) ha fun ν j a' w' _ hr => ⟨rfl, res_old hr⟩
      simp [stsA2_o]; omega
  obtain ⟨n, rfl⟩ : ∃ n' : Nat, n = n' := ⟨n.toNat, by omega⟩
  have hn0 : 0 < n := by omega
  have hn1 : n ≤ 64 := by omega
  refine Res.segV (F := []) (GF := []) (V := []) (GV := []) host5 _ (stsA n oa on oc sa sn sc) stsA3_n (stsA3_1 n oa on oc sa sn sc) (stsA3_2 n oa on oc sa sn sc) Res.start hlu no_old rfl ?_ (fun _ _ => rfl) (fun _ _ => rfl) ha fun ν j a2 w2 hfr2 hr2 => ?_
  · simp [stsA3_o]; omega
  obtain ⟨c, cb, ws, e1, e2, e3⟩ : ∃ c cb ws, (stsA3_o n oa on oc sa sn sc ν j).2.1 = stsK n c oa on oc sa sn sc none none 0 0 0 0 ∧ (stsA3_o n oa on oc sa sn sc ν j).2.2.news = [(cb, 82, [.slice (some ⟨ws, 0, none⟩) n n]), (c, 77, [ptrV cb])] ∧ (stsA3_o n oa on oc sa sn sc ν j).2.2.vecs = [wordsV ws n n n ((List.replicate n (0 : Int)).map u64V)] := ⟨_, _, _, rfl, rfl, rfl⟩
  rw [e1] at hfr2
  rw [e2, e3] at hr2
  have hI : I1 W c cb ws n [] [] none none 0 0 0 w2 := ⟨res_nil (res_nil (hr2.perm (List.Perm.swap ..) (.refl _)) _ _) _ _, rfl, rfl, by simp⟩
  refine loop_after (i := 10) (by kernel_rfl) (fun d a w => ∃ (i : Nat) (us : List RU) (qs : List (Nat × Nat × Nat)) (su sp : Option Addr) (m cu cp : Nat), d = on - i ∧ i ≤ on ∧ m ≤ i ∧ Fr Tryd.f5.ntmps (stsK n c oa on oc sa sn sc su sp m cu cp i) a ∧ I1 W c cb ws n us qs su sp m cu cp w) on ⟨0, [], [], none, none, 0, 0, 0, rfl, Nat.zero_le _, Nat.le_refl _, hfr2, hI⟩ ?_
  rintro d a3 w3 ⟨i, us, qs, su, sp, m, cu, cp, rfl, hi, hmi, hfr3, hI3⟩ Y hY _
  by_cases hlt : i < on
  · obtain ⟨⟨k, wk, b⟩, hy⟩ : ∃ y, l[i]? = some y := ⟨_, List.getElem?_eq_getElem (by omega)⟩
    have he := hel i _ hy
    obtain ⟨ab, ao, rfl, _⟩ := hel i _ hy
    have hro := ro_elem hU he (opsK k wk b) (by simp [opsK, shop.Op.row]) (by simp [opsK])
    have hw := wrap_next hlt hcap hmax
    cases hr : Sk.right k wk b with
    | true =>
      refine Res.segV host5 _ (stsR c cb ws n ab ao on oc sa sn sc su sp m cu cp (us.flatMap RU.row) (qs.map pV) i k wk b) stsR1_n (stsR1_1 c cb ws n ab ao on oc sa sn sc su sp m cu cp (us.flatMap RU.row) (qs.map pV) i k wk b) (stsR1_2 c cb ws n ab ao on oc sa sn sc su sp m cu cp (us.flatMap RU.row) (qs.map pV) i k wk b)
        hI3.res hro no_old rfl ?_ (fun _ _ => rfl) (fun _ _ => rfl) hfr3 fun ν j a4 w4 hfr4 hr4 => ?_
      · simp [stsR1_o, hr, hlt, hn0, unders, ptrs, addV_eq, maxLen]; omega
      · obtain ⟨p, kb, bb, gu, cu', gp, cp', e1, e2, e3⟩ : ∃ p kb bb gu cu' gp cp', (stsR1_o c cb ws n ab ao on oc sa sn sc su sp m cu cp (us.flatMap RU.row) (qs.map pV) i k wk b ν j).2.1 = [(0, .int .i64 n), (1, .slice (some ⟨ab, ao, none⟩) on oc), (2, .slice sa sn sc), (7, ptrV c), (11, .slice (some ⟨gu, 0, none⟩) (addV m 1) cu'), (12, .slice (some ⟨gp, 0, none⟩) (addV m 1) cp'), (13, .int .i64 (IntKind.i64.wrap ((i : Int) + 1)))] ∧
            (stsR1_o c cb ws n ab ao on oc sa sn sc su sp m cu cp (us.flatMap RU.row) (qs.map pV) i k wk b ν j).2.2.news = pendB c k wk b (Sk.akOf k) (Sk.abOf k b) (Sk.cellOf n k wk) (Sk.lastOf n k wk) 0 false p kb bb ∧ (stsR1_o c cb ws n ab ao on oc sa sn sc su sp m cu cp (us.flatMap RU.row) (qs.map pV) i k wk b ν j).2.2.vecs = [unders (some ⟨gu, 0, none⟩) (addV m 1) cu' (us.flatMap RU.row ++ [.int .u8 k, .int .i64 wk, .int .u64 b, .int .i64 0, .int .u64 0]), ptrs (some ⟨gp, 0, none⟩) (addV m 1) cp' (qs.map pV ++ [ptrV p])] := ⟨_, _, _, _, _, _, _, rfl, rfl, rfl⟩
        rw [e1, hw, addV_eq] at hfr4
        rw [e2, e3, addV_eq] at hr4
        have hg0 : RGood n ⟨k, wk, b, 0, 0⟩ := ⟨hr, Int.le_refl _, by have := (many_pos' hn0 hn1 (k := k)).1; simp only; omega⟩
        have hfb : pendB c k wk b (Sk.akOf k) (Sk.abOf k b) (Sk.cellOf n k wk) (Sk.lastOf n k wk) 0 false p kb bb = fB c n ⟨k, wk, b, 0, 0⟩ (p, kb, bb) := by
          have : Sk.ended n ⟨k, wk, b, 0, 0⟩ = false := by
            have := (many_pos' hn0 hn1 (k := k)).1
            simp only [Sk.ended, decide_eq_false_iff_not]; omega
          simp only [fB, this, Int.add_zero]
        rw [hfb] at hr4
        refine hY (on - (i + 1)) a4 w4 (by omega) ⟨i + 1, us ++ [⟨k, wk, b, 0, 0⟩], qs ++ [(p, kb, bb)], _, _, m + 1, cu', cp', rfl, hlt, by omega, hfr4, ⟨?_, by simp [hI3.lu], by simp [hI3.lq], fun r hm => ?_⟩⟩
        · rw [famB_push (by rw [hI3.lu, hI3.lq])]
          simp only [List.flatMap_append, List.map_append]
          exact hr4.perm (perm3 _ _ _) (.refl _)
        · rcases List.mem_append.1 hm with hm | hm
          · exact hI3.good r hm
          · rw [List.mem_singleton.1 hm]; exact hg0
    | false =>
      refine Res.segV host5 _ (stsR c cb ws n ab ao on oc sa sn sc su sp m cu cp (us.flatMap RU.row) (qs.map pV) i k wk b) stsR2_n (stsR2_1 c cb ws n ab ao on oc sa sn sc su sp m cu cp (us.flatMap RU.row) (qs.map pV) i k wk b) (stsR2_2 c cb ws n ab ao on oc sa sn sc su sp m cu cp (us.flatMap RU.row) (qs.map pV) i k wk b)
        hI3.res hro no_old rfl ?_ (fun _ _ => rfl) (fun _ _ => rfl) hfr3 fun ν j a4 w4 hfr4 hr4 => ?_
      · simp [stsR2_o, hr, hlt, hn0]
      · simp only [stsR2_o, hw] at hfr4
        exact hY (on - (i + 1)) a4 w4 (by omega) ⟨i + 1, us, qs, su, sp, m, cu, cp, rfl, hlt, by omega, hfr4, hr4, hI3.lu, hI3.lq, hI3.good⟩
  · have hd : ¬ (i : Int) < on := by omega
    refine Res.segV (F := []) (V := []) host5 _ (stsX n c oa on oc sa sn sc su sp m cu cp i) stsX1_n (stsX1_1 n c oa on oc sa sn sc su sp m cu cp i) (stsX1_2 n c oa on oc sa sn sc su sp m cu cp i) hI3.res hlu no_old rfl ?_ (fun _ _ => rfl) (fun _ _ => rfl) hfr3 fun ν j a4 w4 hfr4 hr4 => ?_
    · simp [stsX1_o, hd, maxLen]
      exact ⟨decide_eq_true (by omega), by omega⟩
    obtain ⟨gc, e1, e2, e3⟩ : ∃ gc, (stsX1_o n c oa on oc sa sn sc su sp m cu cp i ν j).2.1 = stsM n c sa sn sc su sp m cu cp gc n 0 ∧ (stsX1_o n c oa on oc sa sn sc su sp m cu cp i ν j).2.2.news = [] ∧ (stsX1_o n c oa on oc sa sn sc su sp m cu cp i ν j).2.2.vecs = [u64sV (some ⟨gc, 0, none⟩) n n (madeCells (Value.cells (.int .u64 0)) (n * 1)).toList] := ⟨_, rfl, rfl, rfl⟩
    rw [e1] at hfr4
    rw [e2, e3, Nat.mul_one, show (Value.cells (.int .u64 0)) = #[.int .u64 0] from rfl, toList_madeCells_one] at hr4
    have hI4 : I2 W c cb ws n us qs su sp m cu cp gc n (List.replicate n 0) w4 := by
      refine ⟨?_, hI3.lu, hI3.lq, hI3.good, Sk.inU_rep n⟩
      rw [show (List.replicate n (0 : Int)).map u64V = List.replicate n (.int .u64 0) from List.map_replicate ..]
      have := hr4
      rw [show (List.replicate n (0 : Int)).map u64V = List.replicate n (.int .u64 0) from List.map_replicate ..] at this
      exact this.perm (.refl _) (by simp only [List.cons_append, List.nil_append]; exact (List.Perm.cons _ (perm3 [_, _] [wordsV ws n n n _] [])).trans (.swap ..))
    refine loop_after (i := 23) (by kernel_rfl) (fun d a w => ∃ (i : Nat) (us : List RU) (gc cc : Nat) (xs : List Int), d = sn - i ∧ i ≤ sn ∧ Fr Tryd.f5.ntmps (stsM n c sa sn sc su sp m cu cp gc cc i) a ∧ I2 W c cb ws n us qs su sp m cu cp gc cc xs w) sn ⟨0, us, gc, n, _, rfl, Nat.zero_le _, hfr4, hI4⟩ ?_
    clear hI4 hr4 hfr4 e1 e2 e3 hI3 hY hfr3
    rintro d a5 w5 ⟨i, us, gc, cc, xs, rfl, hi, hfr5, hI5⟩ Y hY _
    have hxl : xs.length = n := by
      have := (res_len hI5.res (e := 91) (s := 1) (n := n) (c := n) (so := some ⟨ws, 0, none⟩) (xs := xs.map u64V) (List.mem_cons_self ..)).2.1
      simpa using this
    by_cases hlt : i < sn
    rotate_left
    · have hd : ¬ (i : Int) < sn := by omega
      refine Res.segV (F := cntB c cb ws n) (V := [wordsV ws n n n (xs.map u64V), u64sV (some ⟨gc, 0, none⟩) n cc (xs.map u64V)]) host5 _ (stsY c cb ws n sa sn sc su sp m cu cp gc cc xs i) stsY1_n (stsY1_1 c cb ws n sa sn sc su sp m cu cp gc cc xs i) (stsY1_2 c cb ws n sa sn sc su sp m cu cp gc cc xs i) hI5.res hlu no_old rfl ?_ (fun _ _ => rfl) (fun _ _ => rfl) hfr5 fun ν j a4 w4 hfr4 hr4 => ⟨rfl, res_old hr4⟩
      simp only [stsY1_o, map_valU, all_u64]
      simp [hd, hn0]; omega
    obtain ⟨kv, hk⟩ : ∃ k, ks[i]? = some k := ⟨_, List.getElem?_eq_getElem (by omega)⟩
    have he := hel2 i kv hk
    obtain ⟨sb, so, rfl, _⟩ := hel2 i kv hk
    have hro := ro_elem hU he [(0, .int .i64 kv)] (by simp [intRow]) (by simp)
    have hw := wrap_next hlt hcap2 hmax2
    by_cases hk0 : kv < 0
    · refine Res.segV (F := []) (V := []) host5 _ (stsN n c sb so sn sc su sp m cu cp gc cc i kv) stsN1_n (stsN1_1 n c sb so sn sc su sp m cu cp gc cc i kv) (stsN1_2 n c sb so sn sc su sp m cu cp gc cc i kv) hI5.res hro no_old rfl ?_ (fun _ _ => rfl) (fun _ _ => rfl) hfr5 fun ν j a6 w6 hfr6 hr6 => ?_
      · simp [stsN1_o, hlt, hk0]
      · simp only [stsN1_o, hw] at hfr6
        exact hY (sn - (i + 1)) a6 w6 (by omega) ⟨i + 1, us, gc, cc, xs, rfl, hlt, hfr6, hr6, hI5.lu, hI5.lq, hI5.good, hI5.inU⟩
    by_cases hkm : kv ≥ m
    · refine Res.segV (F := []) (V := []) host5 _ (stsN n c sb so sn sc su sp m cu cp gc cc i kv) stsN2_n (stsN2_1 n c sb so sn sc su sp m cu cp gc cc i kv) (stsN2_2 n c sb so sn sc su sp m cu cp gc cc i kv) hI5.res hro no_old rfl ?_ (fun _ _ => rfl) (fun _ _ => rfl) hfr5 fun ν j a6 w6 hfr6 hr6 => ?_
      · simp [stsN2_o, hlt, hk0, hkm] <;> omega
      · simp only [stsN2_o, hw] at hfr6
        exact hY (sn - (i + 1)) a6 w6 (by omega) ⟨i + 1, us, gc, cc, xs, rfl, hlt, hfr6, hr6, hI5.lu, hI5.lq, hI5.good, hI5.inU⟩
    obtain ⟨q, rfl⟩ : ∃ q : Nat, kv = q := ⟨kv.toNat, by omega⟩
    have hqm : q < m := by omega
    obtain ⟨r, hr⟩ : ∃ r, us[q]? = some r := ⟨_, List.getElem?_eq_getElem (by rw [hI5.lu]; exact hqm)⟩
    obtain ⟨⟨p, kb, bb⟩, hp⟩ : ∃ z, qs[q]? = some z := ⟨_, List.getElem?_eq_getElem (by rw [hI5.lq]; exact hqm)⟩
    have hg := hI5.good r (List.mem_of_getElem? hr)
    obtain ⟨_, _, hsu⟩ := res_len hI5.res (List.mem_cons_of_mem _ (List.mem_cons_of_mem _ (List.mem_cons_self ..)))
    obtain ⟨_, _, hsp⟩ := res_len hI5.res (List.mem_cons_of_mem _ (List.mem_cons_of_mem _ (List.mem_cons_of_mem _ (List.mem_cons_self ..))))
    obtain ⟨gu, rfl⟩ := hsu (by omega)
    obtain ⟨gp, rfl⟩ := hsp (by omega)
    have hF : Res W NoOld ((cntB c cb ws n ++ fB c n r (p, kb, bb)) ++ famB (fB c n) (us.eraseIdx q) (qs.eraseIdx q)) [] ([wordsV ws n n n (xs.map u64V), u64sV (some ⟨gc, 0, none⟩) n cc (xs.map u64V)] ++ [unders (some ⟨gu, 0, none⟩) m cu (us.flatMap RU.row), ptrs (some ⟨gp, 0, none⟩) m cp (qs.map pV)]) w5 :=
      hI5.res.perm (by rw [List.append_assoc]; exact perm_in (famB_focus hr hp)) (.refl _)
    have ops : ∀ o ∈ ([⟨unders (some ⟨gu, 0, none⟩) m cu (us.flatMap RU.row), gu, elC 5 q [(0, .int .u8 r.k), (1, .int .i64 r.w), (2, .int .u64 r.b), (3, .int .i64 r.at_), (4, .int .u64 r.sum)]⟩, ⟨ptrs (some ⟨gp, 0, none⟩) m cp (qs.map pV), gp, elC 1 q [(0, ptrV p)]⟩] : List Sy.Open), OpenOk o :=
      opens_cons (open_row ⟨_, _, rfl⟩ rfl RU.row_len hr (by simp [RU.row]) (by simp)) (opens_cons (open_row (row := fun q => [pV q]) ⟨_, _, rfl⟩ (List.map_eq_flatMap ..) (fun _ => rfl) hp (by simp [pV]) (by simp)) opens_nil)
    have hpq : (qs.map pV)[q]? = some (ptrV p) := by rw [List.getElem?_map, hp]; rfl
    have hqm' : (q : Int) < m := by omega
    have hqm2 : ¬ (m : Int) ≤ q := by omega
    have hi' : (i : Int) < sn := by omega
    have re : ∀ (l0 : List (Nat × Nat × Value)) (r' : RU) (v : Value) {l : List (Nat × Nat × Value)}, l = (gu, smul q 5 + 0, .int .u8 r'.k) :: (gu, smul q 5 + 1, .int .i64 r'.w) :: (gu, smul q 5 + 2, .int .u64 r'.b) :: (gu, smul q 5 + 3, .int .i64 r'.at_) :: (gu, smul q 5 + 4, .int .u64 r'.sum) :: (gp, smul q 1 + 0, v) :: l0 →
        reV [⟨unders (some ⟨gu, 0, none⟩) m cu (us.flatMap RU.row), gu, elC 5 q [(0, .int .u8 r.k), (1, .int .i64 r.w), (2, .int .u64 r.b), (3, .int .i64 r.at_), (4, .int .u64 r.sum)]⟩, ⟨ptrs (some ⟨gp, 0, none⟩) m cp (qs.map pV), gp, elC 1 q [(0, ptrV p)]⟩] l ++ [] = [unders (some ⟨gu, 0, none⟩) m cu ((us.set q r').flatMap RU.row), ptrs (some ⟨gp, 0, none⟩) m cp ((qs.map pV).set q v)] := fun l0 r' v l hl => by
      subst hl
      simp only [reV, unders, ptrs]
      rw [reL_row (u := r) (u' := r') RU.row_len hr (by simp) rfl]
      simp only [elC, reR, reL, smul_eq, Nat.mul_one, Nat.add_zero]
      rfl
    cases hov : Sk.ended n r with
    | true =>
      have hat : manyOf n r.k ≤ r.at_ := of_decide_eq_true hov
      have hfb : fB c n r (p, kb, bb) = pendB c r.k r.w r.b (Sk.akOf r.k) (Sk.abOf r.k r.b) (Sk.cellOf n r.k r.w + r.at_) (Sk.lastOf n r.k r.w) r.sum true p kb bb := by rw [← hov]; rfl
      refine Res.segO (F := cntB c cb ws n ++ pendB c r.k r.w r.b (Sk.akOf r.k) (Sk.abOf r.k r.b) (Sk.cellOf n r.k r.w + r.at_) (Sk.lastOf n r.k r.w) r.sum true p kb bb) (V := [wordsV ws n n n (xs.map u64V), u64sV (some ⟨gc, 0, none⟩) n cc (xs.map u64V)]) (GV := []) host5 _ (stsS c cb ws n sb so sn sc gu gp m cu cp gc cc xs i q p kb bb r.k r.w r.b r.at_ r.sum (Sk.akOf r.k) (Sk.abOf r.k r.b) (Sk.cellOf n r.k r.w + r.at_) (Sk.lastOf n r.k r.w) r.sum true) stsS1_n (stsS1_1 c cb ws n sb so sn sc gu gp m cu cp gc cc xs i q p kb bb r.k r.w r.b r.at_ r.sum (Sk.akOf r.k) (Sk.abOf r.k r.b) (Sk.cellOf n r.k r.w + r.at_) (Sk.lastOf n r.k r.w) r.sum true) (stsS1_2 c cb ws n sb so sn sc gu gp m cu cp gc cc xs i q p kb bb r.k r.w r.b r.at_ r.sum (Sk.akOf r.k) (Sk.abOf r.k r.b) (Sk.cellOf n r.k r.w + r.at_) (Sk.lastOf n r.k r.w) r.sum true) _ (hfb ▸ hF) ops hro no_old rfl ?_ (fun _ _ => rfl) (fun _ _ => rfl) (fun _ _ => rfl) hfr5 fun ν j a6 w6 hfr6 hr6 => ?_
      · simp [stsS1_o, hat, hqm', hqm2, hi', hlt] <;> omega
      · obtain ⟨o, ho⟩ : ∃ o, o = stsS1_o c cb ws n sb so sn sc gu gp m cu cp gc cc xs i q p kb bb r.k r.w r.b r.at_ r.sum (Sk.akOf r.k) (Sk.abOf r.k r.b) (Sk.cellOf n r.k r.w + r.at_) (Sk.lastOf n r.k r.w) r.sum true ν j := ⟨_, rfl⟩
        rw [← ho] at hfr6 hr6
        have e1 : o.2.1 = stsM n c (some ⟨sb, so, none⟩) sn sc (some ⟨gu, 0, none⟩) (some ⟨gp, 0, none⟩) m cu cp gc cc (i + 1) := by rw [ho]; simp only [stsS1_o, hw]; rfl
        have e2 : o.2.2.news = [] := by rw [ho]; rfl
        have e3 : o.2.2.blocks = cntB c cb ws n ++ fB c n r (p, kb, bb) := by rw [ho, hfb]; rfl
        have e4 : o.2.2.vecs = [wordsV ws n n n (xs.map u64V), u64sV (some ⟨gc, 0, none⟩) n cc (xs.map u64V)] := by rw [ho]; rfl
        have e5 := re (elemL sb so 1 i [(0, .int .i64 q)] usesC) r (ptrV p) (l := o.2.2.loose) (by rw [ho]; rfl)
        rw [e1] at hfr6
        rw [e2, e3, e4, e5, set_same hr, set_same hpq, List.nil_append, List.append_assoc] at hr6
        exact hY (sn - (i + 1)) a6 w6 (by omega) ⟨i + 1, us, gc, cc, xs, rfl, hlt, hfr6, hr6.perm (perm_in (famB_focus hr hp)).symm (.refl _), hI5.lu, hI5.lq, hI5.good, hI5.inU⟩
    | false =>
      have hat : ¬ manyOf n r.k ≤ r.at_ := of_decide_eq_false hov
      have hfb : fB c n r (p, kb, bb) = pendB c r.k r.w r.b (Sk.akOf r.k) (Sk.abOf r.k r.b) (Sk.cellOf n r.k r.w + r.at_) (Sk.lastOf n r.k r.w) r.sum false p kb bb := by rw [← hov]; rfl
      obtain ⟨z1, z2, z3, z4, z5, z6, z7, z8⟩ := Sk.sim hn0 (by omega) hg hov hI5.inU
      have hcell : Sk.cellOf n r.k r.w + r.at_ = Sk.rcell n r.k r.w r.at_ := Sk.rcell_prog hg hov
      have hkd : Sk.kinds r.k = true := by rcases Sk.kinds_of hg.right with h | h | h | h <;> simp [Sk.kinds, Sk.isOne, Sk.isAll, h]
      have hact : Sk.okAct (Sk.akOf r.k) (Sk.abOf r.k r.b) = true := (Sk.prog_live hn0 (by omega) hg).act
      have hov2 : decide (IntKind.i64.wrap (Sk.cellOf n r.k r.w + r.at_ + 1) > Sk.lastOf n r.k r.w) = Sk.ended n (Sk.rnext n xs r) := congrArg Sk.SU.over z2
      have hsaw : Sk.sawOf (Sk.akOf r.k) (Sk.abOf r.k r.b) (seeAt xs (Sk.rcell n r.k r.w r.at_)) = seeAt xs (Sk.rcell n r.k r.w r.at_) := by rw [← hcell] at z3 ⊢; exact z3
      have hput : Sk.putOf (Sk.akOf r.k) (Sk.abOf r.k r.b) (seeAt xs (Sk.rcell n r.k r.w r.at_)) = Sk.rput r.k r.b (seeAt xs (Sk.rcell n r.k r.w r.at_)) := by
        have := z4
        simp only [Sk.step] at this
        rw [show (Sk.prog n r).cell = Sk.rcell n r.k r.w r.at_ from hcell] at this
        exact this
      cases he2 : Sk.ended n (Sk.rnext n xs r) with
      | false =>
        have hc2 : IntKind.i64.wrap (Sk.rcell n r.k r.w r.at_ + 1) = Sk.cellOf n r.k r.w + IntKind.i64.wrap (r.at_ + 1) := by
          have := congrArg Sk.SU.cell z2
          simp only [Sk.step, Sk.rnext] at this
          rw [show (Sk.prog n r).cell = Sk.rcell n r.k r.w r.at_ from hcell] at this
          exact this
        have hov3 := hov2
        rw [hcell, hc2] at hov3
        rw [he2] at hov2
        have hat2 := he2
        simp only [Sk.ended, Sk.rnext, decide_eq_true_eq, decide_eq_false_iff_not] at hat2
        have hs2 : Sk.rsum r.k r.b r.sum (seeAt xs (Sk.rcell n r.k r.w r.at_)) = Sk.sumOf (Sk.akOf r.k) r.sum (seeAt xs (Sk.rcell n r.k r.w r.at_)) (Sk.rput r.k r.b (seeAt xs (Sk.rcell n r.k r.w r.at_))) := by
          have := congrArg Sk.SU.sum z2
          simp only [Sk.step, Sk.rnext] at this
          rw [show (Sk.prog n r).cell = Sk.rcell n r.k r.w r.at_ from hcell, show (Sk.prog n r).ak = Sk.akOf r.k from rfl, show (Sk.prog n r).ab = Sk.abOf r.k r.b from rfl, show (Sk.prog n r).sum = r.sum from rfl, hsaw, hput] at this
          exact this.symm
        refine Res.segO (F := cntB c cb ws n ++ pendB c r.k r.w r.b (Sk.akOf r.k) (Sk.abOf r.k r.b) (Sk.cellOf n r.k r.w + r.at_) (Sk.lastOf n r.k r.w) r.sum false p kb bb) (V := [wordsV ws n n n (xs.map u64V), u64sV (some ⟨gc, 0, none⟩) n cc (xs.map u64V)]) (GV := []) host5 _ (stsS c cb ws n sb so sn sc gu gp m cu cp gc cc xs i q p kb bb r.k r.w r.b r.at_ r.sum (Sk.akOf r.k) (Sk.abOf r.k r.b) (Sk.cellOf n r.k r.w + r.at_) (Sk.lastOf n r.k r.w) r.sum false) stsS2_n (stsS2_1 c cb ws n sb so sn sc gu gp m cu cp gc cc xs i q p kb bb r.k r.w r.b r.at_ r.sum (Sk.akOf r.k) (Sk.abOf r.k r.b) (Sk.cellOf n r.k r.w + r.at_) (Sk.lastOf n r.k r.w) r.sum false) (stsS2_2 c cb ws n sb so sn sc gu gp m cu cp gc cc xs i q p kb bb r.k r.w r.b r.at_ r.sum (Sk.akOf r.k) (Sk.abOf r.k r.b) (Sk.cellOf n r.k r.w + r.at_) (Sk.lastOf n r.k r.w) r.sum false) _ (hfb ▸ hF) ops hro no_old rfl ?_ (fun _ _ => rfl) (fun _ _ => rfl) (fun _ _ => rfl) hfr5 fun ν j a6 w6 hfr6 hr6 => ?_
        · simp only [stsS2_o, map_valU, all_u64, hov2]
          simp only [hcell, hsaw, hput, hs2]
          simp [hat, hqm', hqm2, hi', hlt, hn0, hkd, z7, z8, hat2, hact]
          exact ⟨by first | exact of_decide_eq_true hat2 | exact Int.not_le.1 (of_decide_eq_false hat2), by omega⟩
        · obtain ⟨o, ho⟩ : ∃ o, o = stsS2_o c cb ws n sb so sn sc gu gp m cu cp gc cc xs i q p kb bb r.k r.w r.b r.at_ r.sum (Sk.akOf r.k) (Sk.abOf r.k r.b) (Sk.cellOf n r.k r.w + r.at_) (Sk.lastOf n r.k r.w) r.sum false ν j := ⟨_, rfl⟩
          rw [← ho] at hfr6 hr6
          obtain ⟨gn, cn, e1, e4⟩ : ∃ gn cn, o.2.1 = stsM n c (some ⟨sb, so, none⟩) sn sc (some ⟨gu, 0, none⟩) (some ⟨gp, 0, none⟩) m cu cp gn cn (i + 1) ∧ o.2.2.vecs = [wordsV ws n n n ((Sk.step xs (Sk.prog n r)).xs.map u64V), u64sV (some ⟨gc, 0, none⟩) n cc (xs.map u64V), u64sV (some ⟨gn, 0, none⟩) n cn ((Sk.step xs (Sk.prog n r)).xs.map u64V)] := by
            refine ⟨_, _, by rw [ho]; simp only [stsS2_o, hw]; rfl, ?_⟩
            rw [ho, z1]
            simp only [stsS2_o, map_valU, rowNow, hcell, hput]
            rfl
          have e2 : o.2.2.news = [] := by rw [ho]; rfl
          have e3 : o.2.2.blocks = cntB c cb ws n ++ fB c n (Sk.rnext n xs r) (p, kb, bb) := by
            rw [ho]
            simp only [stsS2_o, map_valU, hcell, hsaw, hput, hc2, ← hs2]
            rw [hov3]
            rfl
          have e5 := re (elemL sb so 1 i [(0, .int .i64 q)] usesC) (Sk.rnext n xs r) (ptrV p) (l := o.2.2.loose) (by rw [ho]; simp only [stsS2_o, map_valU]; rfl)
          rw [e1] at hfr6
          rw [e2, e3, e4, e5, set_same hpq, List.nil_append, List.append_assoc] at hr6
          refine hY (sn - (i + 1)) a6 w6 (by omega) ⟨i + 1, us.set q (Sk.rnext n xs r), gn, cn, _, rfl, hlt, hfr6, (hr6.perm (perm_in (famB_set hr hp)) (.refl _)).less (.refl _) (.refl _) (.cons_cons _ (.cons _ (.refl _))), by rw [List.length_set]; exact hI5.lu, hI5.lq, fun r' hm => ?_, z6⟩
          rcases List.mem_or_eq_of_mem_set hm with hm | rfl
          · exact hI5.good r' hm
          · exact z5
      | true =>
        have hc2 : IntKind.i64.wrap (Sk.rcell n r.k r.w r.at_ + 1) = Sk.cellOf n r.k r.w + IntKind.i64.wrap (r.at_ + 1) := by
          have := congrArg Sk.SU.cell z2
          simp only [Sk.step, Sk.rnext] at this
          rw [show (Sk.prog n r).cell = Sk.rcell n r.k r.w r.at_ from hcell] at this
          exact this
        have hov3 := hov2
        rw [hcell, hc2] at hov3
        rw [he2] at hov2
        have hat2 := he2
        simp only [Sk.ended, Sk.rnext, decide_eq_true_eq, decide_eq_false_iff_not] at hat2
        have hs2 : Sk.rsum r.k r.b r.sum (seeAt xs (Sk.rcell n r.k r.w r.at_)) = Sk.sumOf (Sk.akOf r.k) r.sum (seeAt xs (Sk.rcell n r.k r.w r.at_)) (Sk.rput r.k r.b (seeAt xs (Sk.rcell n r.k r.w r.at_))) := by
          have := congrArg Sk.SU.sum z2
          simp only [Sk.step, Sk.rnext] at this
          rw [show (Sk.prog n r).cell = Sk.rcell n r.k r.w r.at_ from hcell, show (Sk.prog n r).ak = Sk.akOf r.k from rfl, show (Sk.prog n r).ab = Sk.abOf r.k r.b from rfl, show (Sk.prog n r).sum = r.sum from rfl, hsaw, hput] at this
          exact this.symm
        refine Res.segO (F := cntB c cb ws n ++ pendB c r.k r.w r.b (Sk.akOf r.k) (Sk.abOf r.k r.b) (Sk.cellOf n r.k r.w + r.at_) (Sk.lastOf n r.k r.w) r.sum false p kb bb) (V := [wordsV ws n n n (xs.map u64V), u64sV (some ⟨gc, 0, none⟩) n cc (xs.map u64V)]) (GV := []) host5 _ (stsS c cb ws n sb so sn sc gu gp m cu cp gc cc xs i q p kb bb r.k r.w r.b r.at_ r.sum (Sk.akOf r.k) (Sk.abOf r.k r.b) (Sk.cellOf n r.k r.w + r.at_) (Sk.lastOf n r.k r.w) r.sum false) stsS3_n (stsS3_1 c cb ws n sb so sn sc gu gp m cu cp gc cc xs i q p kb bb r.k r.w r.b r.at_ r.sum (Sk.akOf r.k) (Sk.abOf r.k r.b) (Sk.cellOf n r.k r.w + r.at_) (Sk.lastOf n r.k r.w) r.sum false) (stsS3_2 c cb ws n sb so sn sc gu gp m cu cp gc cc xs i q p kb bb r.k r.w r.b r.at_ r.sum (Sk.akOf r.k) (Sk.abOf r.k r.b) (Sk.cellOf n r.k r.w + r.at_) (Sk.lastOf n r.k r.w) r.sum false) _ (hfb ▸ hF) ops hro no_old rfl ?_ (fun _ _ => rfl) (fun _ _ => rfl) (fun _ _ => rfl) hfr5 fun ν j a6 w6 hfr6 hr6 => ?_
        · simp only [stsS3_o, map_valU, all_u64, hov2]
          simp only [hcell, hsaw, hput, hs2]
          simp [hat, hqm', hqm2, hi', hlt, hn0, hkd, z7, z8, hat2, hact]
          exact ⟨by first | exact of_decide_eq_true hat2 | exact Int.not_le.1 (of_decide_eq_false hat2), by omega⟩
        · obtain ⟨o, ho⟩ : ∃ o, o = stsS3_o c cb ws n sb so sn sc gu gp m cu cp gc cc xs i q p kb bb r.k r.w r.b r.at_ r.sum (Sk.akOf r.k) (Sk.abOf r.k r.b) (Sk.cellOf n r.k r.w + r.at_) (Sk.lastOf n r.k r.w) r.sum false ν j := ⟨_, rfl⟩
          rw [← ho] at hfr6 hr6
          obtain ⟨gn, cn, e1, e4⟩ : ∃ gn cn, o.2.1 = stsM n c (some ⟨sb, so, none⟩) sn sc (some ⟨gu, 0, none⟩) (some ⟨gp, 0, none⟩) m cu cp gn cn (i + 1) ∧ o.2.2.vecs = [wordsV ws n n n ((Sk.step xs (Sk.prog n r)).xs.map u64V), u64sV (some ⟨gc, 0, none⟩) n cc (xs.map u64V), u64sV (some ⟨gn, 0, none⟩) n cn ((Sk.step xs (Sk.prog n r)).xs.map u64V)] := by
            refine ⟨_, _, by rw [ho]; simp only [stsS3_o, hw]; rfl, ?_⟩
            rw [ho, z1]
            simp only [stsS3_o, map_valU, rowNow, hcell, hput]
            rfl
          have e2 : o.2.2.news = [] := by rw [ho]; rfl
          have e3 : o.2.2.blocks = cntB c cb ws n ++ fB c n (Sk.rnext n xs r) (p, kb, bb) := by
            rw [ho]
            simp only [stsS3_o, map_valU, hcell, hsaw, hput, hc2, ← hs2]
            rw [hov3]
            rfl
          have e5 := re (elemL sb so 1 i [(0, .int .i64 q)] usesC) (Sk.rnext n xs r) (ptrV p) (l := o.2.2.loose) (by rw [ho]; simp only [stsS3_o, map_valU]; rfl)
          rw [e1] at hfr6
          rw [e2, e3, e4, e5, set_same hpq, List.nil_append, List.append_assoc] at hr6
          refine hY (sn - (i + 1)) a6 w6 (by omega) ⟨i + 1, us.set q (Sk.rnext n xs r), gn, cn, _, rfl, hlt, hfr6, (hr6.perm (perm_in (famB_set hr hp)) (.refl _)).less (.refl _) (.refl _) (.cons_cons _ (.cons _ (.refl _))), by rw [List.length_set]; exact hI5.lu, hI5.lq, fun r' hm => ?_, z6⟩
          rcases List.mem_or_eq_of_mem_set hm with hm | rfl
          · exact hI5.good r' hm
          · exact z5
end Go.Proofs.YtfdgggikjnoghaaDoor.steps
