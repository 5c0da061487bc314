/- ShardsStill: the walk whole. -/
import Derived.Test.YtfdgggikjnoghaaDoorShQB
import Derived.Test.YtfdgggikjnoghaaDoorShSum
namespace Go.Proofs.YtfdgggikjnoghaaDoor.still
open Go Sy Close
set_option maxRecDepth 100000
open Sk (RU RGood)
open shst (fB pV oRow)
theorem body : Tryd.f3.body = some (codeOf Tryd.f3) := by kernel_rfl
theorem ntmps : 3 ≤ Tryd.f3.ntmps := by decide +kernel
theorem set_flat {us : List RU} {q : Nat} {r r' : RU} (h : us[q]? = some r) (e : oRow r' = oRow r) : (us.set q r').flatMap oRow = us.flatMap oRow := by
  rw [List.flatMap_def, List.flatMap_def, List.map_set, e, set_same (by rw [List.getElem?_map, h]; rfl)]
/-- Behind a step. -/
theorem step_blk {c n : Nat} {xs : List Int} {r : RU} {p kb bb : Nat} (hn : 0 < n) (hm : n ≤ 65536) (hg : RGood n r) (he : Sk.ended n r = false) (hu : Sk.InU xs) :
    pendB c r.k r.w r.b (Sk.akOf r.k) (Sk.abOf r.k r.b) (IntKind.i64.wrap (Sk.cellOf n r.k r.w + r.at_ + 1)) (Sk.lastOf n r.k r.w) (Sk.sumOf (Sk.akOf r.k) r.sum (Sk.sawOf (Sk.akOf r.k) (Sk.abOf r.k r.b) (seeAt xs (Sk.cellOf n r.k r.w + r.at_))) (Sk.putOf (Sk.akOf r.k) (Sk.abOf r.k r.b) (seeAt xs (Sk.cellOf n r.k r.w + r.at_)))) (decide (IntKind.i64.wrap (Sk.cellOf n r.k r.w + r.at_ + 1) > Sk.lastOf n r.k r.w)) p kb bb = fB c n (Sk.rnext n xs r) (p, kb, bb) :=
  congrArg (fun u : Sk.SU => pendB c u.kind u.worker u.by_ u.ak u.ab u.cell u.last u.sum u.over p kb bb) (Sk.sim hn hm hg he hu).2.1
structure S2 (W : World) (c cb ws n : Nat) (us : List RU) (qs : List (Nat × Nat × Nat)) (sp so : Option Addr) (m cp co : Nat) (xs : List Int) (w : World) : Prop where
  res : Res W NoOld (cntB c cb ws n ++ famB (fB c n) us qs) [] ([wordsV ws n n n (xs.map u64V)] ++ [ptrs sp m cp (qs.map pV), opsV so m co (us.flatMap oRow)]) w
  lu : us.length = m
  lq : qs.length = m
  good : ∀ r ∈ us, RGood n r
  inU : Sk.InU xs
  bal : Sk.Bal xs us
theorem S2.len {W : World} {c cb ws n : Nat} {us : List RU} {qs : List (Nat × Nat × Nat)} {sp so : Option Addr} {m cp co : Nat} {xs : List Int} {w : World} (h : S2 W c cb ws n us qs sp so m cp co xs w) : xs.length = n := by
  have := (res_len h.res (e := 91) (s := 1) (n := n) (c := n) (so := some ⟨ws, 0, none⟩) (xs := xs.map u64V) (List.mem_cons_self ..)).2.1
  simpa using this
theorem S2.max {W : World} {c cb ws n : Nat} {us : List RU} {qs : List (Nat × Nat × Nat)} {sp so : Option Addr} {m cp co : Nat} {xs : List Int} {w : World} (h : S2 W c cb ws n us qs sp so m cp co xs w) : m ≤ maxLen :=
  (res_len h.res (List.mem_cons_of_mem _ (List.mem_cons_self ..))).1
/-- An operation is taken out. -/
theorem S2.part {W : World} {c cb ws n : Nat} {us : List RU} {qs : List (Nat × Nat × Nat)} {sp so : Option Addr} {m cp co : Nat} {xs : List Int} {w : World} (h : S2 W c cb ws n us qs sp so m cp co xs w) {q : Nat} {r : RU} {z : Nat × Nat × Nat} (hr : us[q]? = some r) (hp : qs[q]? = some z) :
    Res W NoOld ((cntB c cb ws n ++ fB c n r z) ++ famB (fB c n) (us.eraseIdx q) (qs.eraseIdx q)) [] ([wordsV ws n n n (xs.map u64V)] ++ [ptrs sp m cp (qs.map pV), opsV so m co (us.flatMap oRow)]) w :=
  h.res.perm (by rw [List.append_assoc]; exact perm_in (famB_focus hr hp)) (.refl _)
/-- And put back, one step later. -/
theorem S2.stepped {W : World} {c cb ws n : Nat} {us : List RU} {qs : List (Nat × Nat × Nat)} {sp so : Option Addr} {m cp co : Nat} {xs : List Int} {w w' : World} (h : S2 W c cb ws n us qs sp so m cp co xs w) {q : Nat} {r : RU} {z : Nat × Nat × Nat} (hr : us[q]? = some r) (hp : qs[q]? = some z) (hn0 : 0 < n) (hn1 : n ≤ 64) (he : Sk.ended n r = false)
    (hres : Res W NoOld ((cntB c cb ws n ++ fB c n (Sk.rnext n xs r) z) ++ famB (fB c n) (us.eraseIdx q) (qs.eraseIdx q)) [] ([wordsV ws n n n ((Sk.step xs (Sk.prog n r)).xs.map u64V)] ++ [ptrs sp m cp (qs.map pV), opsV so m co (us.flatMap oRow)]) w') :
    S2 W c cb ws n (us.set q (Sk.rnext n xs r)) qs sp so m cp co (Sk.step xs (Sk.prog n r)).xs w' := by
  have hg := h.good r (List.mem_of_getElem? hr)
  obtain ⟨_, _, _, _, z5, z6, _, _⟩ := Sk.sim hn0 (by omega) hg he h.inU
  refine ⟨?_, by rw [List.length_set]; exact h.lu, h.lq, fun r' hm => ?_, z6, Sk.bal_step hn0 (by omega) h.len hg he h.inU hr h.bal⟩
  · rw [set_flat (r' := Sk.rnext n xs r) hr rfl]
    exact hres.perm (by rw [List.append_assoc]; exact perm_in (famB_set hr hp)) (.refl _)
  · rcases List.mem_or_eq_of_mem_set hm with hm | rfl
    · exact h.good r' hm
    · exact z5
theorem perm_vec {α : Type} (a b c : α) : [a, b, c].Perm [c, a, b] := (perm3 [a] [b] [c]).trans ((perm3 [b] [c] [a]))

theorem calls {W : World} (n : Int) {oa : Option Addr} {on oc : Nat} {l : List shop.Op} {sa : Option Addr} {sn sc : Nat} {ks : List Int} (hl : l.length = on) (hcap : on ≤ oc) (hmax : oc ≤ maxLen) (hel : ∀ i y, l[i]? = some y → Elem W oa 3 i y.row)
    (hl2 : ks.length = sn) (hcap2 : sn ≤ sc) (hmax2 : sc ≤ maxLen) (hel2 : ∀ i y, ks[i]? = some y → Elem W sa 1 i (intRow y)) (hb : on ≤ 1048576) (hU : UsesAt W) :
    Calls Tryd.prog 3 #[.int .i64 n, .slice oa on oc, .slice sa sn sc] W (Done W) := by
  have hlu := looksUses hU
  refine calls_after (X := fun _ _ _ => False) Tryd.func3 body ntmps fun a1 ha => ?_
  by_cases h1 : 1 ≤ n ∧ n ≤ 64
  rotate_left
  · refine Res.segV (F := []) (GF := []) (V := []) (GV := []) host5 _ (stiA n oa on oc sa sn sc) stiA1_n (stiA1_1 n oa on oc sa sn sc) (stiA1_2 n oa on oc sa sn sc) (Res.start) (hlu) no_old no_ros rfl ?_ (fun _ _ => rfl) (fun _ _ => rfl) ha fun ν j a2 w2 hfr2 hr2 => ?_
    · simp [stiA1_o]; omega
    · exact ⟨rfl, res_old hr2⟩
  obtain ⟨n, rfl⟩ : ∃ n' : Nat, n = n' := ⟨n.toNat, by omega⟩
  have hn0 : 0 < n := by omega
  have hn1 : n ≤ 64 := by omega
  refine Res.segV (F := []) (GF := []) (V := []) (GV := []) host5 _ (stiA n oa on oc sa sn sc) stiA2_n (stiA2_1 n oa on oc sa sn sc) (stiA2_2 n oa on oc sa sn sc) (Res.start) (hlu) no_old no_ros rfl ?_ (fun _ _ => rfl) (fun _ _ => rfl) ha fun ν j a2 w2 hfr2 hr2 => ?_
  · simp [stiA2_o]; omega
  obtain ⟨o, ho⟩ : ∃ o, o = stiA2_o n oa on oc sa sn sc ν j := ⟨_, rfl⟩
  rw [← ho] at hfr2 hr2
  obtain ⟨c, cb, ws, e0, e1, e2, e3⟩ : ∃ c cb ws, o.1 = .call 12 #[ptrV c, .slice oa on oc] (some 28) (regAt Tryd.f3 4).1 ((regAt Tryd.f3 4).1.toList.drop 3) (regAt Tryd.f3 4).2 ∧ o.2.1 = [(1, .slice oa on oc), (2, .slice sa sn sc), (7, ptrV c)] ∧ o.2.2.news = [(cb, 82, [.slice (some ⟨ws, 0, none⟩) n n]), (c, 77, [ptrV cb])] ∧ o.2.2.vecs = [wordsV ws n n n ((List.replicate n (0 : Int)).map u64V)] := by
    rw [ho]; exact ⟨_, _, _, rfl, rfl, rfl, rfl⟩
  have e4 : o.2.2.blocks = [] := by rw [ho]; rfl
  rw [← ho, e0]
  rw [e1] at hfr2
  rw [e2, e3, e4] at hr2
  have hres : Res W NoOld (cntB c cb ws n ++ []) [] [wordsV ws n n n ((List.replicate n (0 : Int)).map u64V)] w2 := hr2.perm (List.Perm.swap ..) (.refl _)
  refine (shst.started hl hcap hmax hel hb hn0 hn1 hres).mono ?_
  rintro e w3 ⟨us, qs, sp, so, m, cp, co, rfl, hmo, hS⟩
  refine ⟨_, rfl, ?_⟩
  have hfr3 := hfr2.put (d := 28) (v := .tuple #[.slice sp m cp, .slice so m co]) (by decide +kernel) [(2, .slice sa sn sc), (7, ptrV c)] (by simp) (by simp)
  have hS2 : S2 W c cb ws n us qs sp so m cp co (List.replicate n 0) w3 := by
    refine ⟨?_, hS.lu, hS.lq, fun r hr => (hS.good r hr).1, Sk.inU_rep n, ?_⟩
    · have := hS.res
      rw [List.append_nil] at this
      exact this.perm (.refl _) (perm_vec _ _ _)
    · simp [Sk.Bal, Sk.tot_rep, Sk.gsum_new (us := us) (fun r hr => (hS.good r hr).2)]
  refine Res.segV (F := []) (V := []) host5 _ (stiB c sa sn sc sp so m cp co) stiB1_n (stiB1_1 c sa sn sc sp so m cp co) (stiB1_2 c sa sn sc sp so m cp co) (hS2.res) (Looks.nil W) no_old no_ros rfl ?_ (fun _ _ => rfl) (fun _ _ => rfl) hfr3 fun ν j a4 w4 hfr4 hr4 => ?_
  · simp [stiB1_o]
  have hfr4 : Fr _ (stiK c sa sn sc sp so m cp co 0) a4 := hfr4
  have hS4 : S2 W c cb ws n us qs sp so m cp co (List.replicate n 0) w4 := ⟨hr4, hS2.lu, hS2.lq, hS2.good, hS2.inU, hS2.bal⟩
  refine loop_after (i := 6) (by kernel_rfl) (fun d a w => ∃ (i : Nat) (us : List RU) (xs : List Int), d = sn - i ∧ i ≤ sn ∧ Fr Tryd.f3.ntmps (stiK c sa sn sc sp so m cp co i) a ∧ S2 W c cb ws n us qs sp so m cp co xs w) sn ⟨0, us, _, rfl, Nat.zero_le _, hfr4, hS4⟩ ?_
  clear hS4 hfr4 hr4 hS2 hfr3 hS hres hr2 hfr2 e0 e1 e2 e3 e4 ho o
  rintro d a5 w5 ⟨i, us, xs, rfl, hi, hfr5, hI⟩ Y hY _
  have hw0 : ∀ {i : Nat}, i < m → IntKind.i64.wrap ((i : Int) + 1) = ((i + 1 : Nat) : Int) := fun {i} hi => by
    have := hI.max
    unfold maxLen at this
    rw [wrap_i64 (by omega) (by omega)]; simp
  by_cases hlt : i < sn
  · obtain ⟨kv, hk⟩ : ∃ k, ks[i]? = some k := ⟨_, List.getElem?_eq_getElem (by omega)⟩
    have he := hel2 i kv hk
    obtain ⟨sb, sf, rfl, _⟩ := hel2 i kv hk
    have hro := ro_elem hU he [(0, .int .i64 kv)] (by simp [intRow]) (by simp)
    have hw := wrap_next hlt hcap2 hmax2
    have hi' : (i : Int) < sn := by omega
    by_cases hk0 : kv < 0
    · refine Res.segV (F := []) (V := []) host5 _ (stiN c sb sf sn sc sp so m cp co i kv) stiN1_n (stiN1_1 c sb sf sn sc sp so m cp co i kv) (stiN1_2 c sb sf sn sc sp so m cp co i kv) (hI.res) (hro) no_old no_ros rfl ?_ (fun _ _ => rfl) (fun _ _ => rfl) hfr5 fun ν j a6 w6 hfr6 hr6 => ?_
      · simp [stiN1_o, hlt, hk0]
      · simp only [stiN1_o, hw] at hfr6
        exact hY (sn - (i + 1)) a6 w6 (by omega) ⟨i + 1, us, xs, rfl, hlt, hfr6, hr6, hI.lu, hI.lq, hI.good, hI.inU, hI.bal⟩
    by_cases hkm : kv ≥ m
    · refine Res.segV (F := []) (V := []) host5 _ (stiN c sb sf sn sc sp so m cp co i kv) stiN2_n (stiN2_1 c sb sf sn sc sp so m cp co i kv) (stiN2_2 c sb sf sn sc sp so m cp co i kv) (hI.res) (hro) no_old no_ros rfl ?_ (fun _ _ => rfl) (fun _ _ => rfl) hfr5 fun ν j a6 w6 hfr6 hr6 => ?_
      · simp [stiN2_o, hlt]; omega
      · simp only [stiN2_o, hw] at hfr6
        exact hY (sn - (i + 1)) a6 w6 (by omega) ⟨i + 1, us, xs, rfl, hlt, hfr6, hr6, hI.lu, hI.lq, hI.good, hI.inU, hI.bal⟩
    obtain ⟨q, rfl⟩ : ∃ q : Nat, kv = q := ⟨kv.toNat, by omega⟩
    have hqm : q < m := by omega
    obtain ⟨r, hr⟩ : ∃ r, us[q]? = some r := ⟨_, List.getElem?_eq_getElem (by rw [hI.lu]; exact hqm)⟩
    obtain ⟨⟨p, kb, bb⟩, hp⟩ : ∃ z, qs[q]? = some z := ⟨_, List.getElem?_eq_getElem (by rw [hI.lq]; exact hqm)⟩
    have hg := hI.good r (List.mem_of_getElem? hr)
    obtain ⟨_, _, hsp⟩ := res_len hI.res (List.mem_cons_of_mem _ (List.mem_cons_self ..))
    obtain ⟨gp, rfl⟩ := hsp (by omega)
    have hpq : (qs.map pV)[q]? = some (ptrV p) := by rw [List.getElem?_map, hp]; rfl
    have hF := hI.part hr hp
    have ops : ∀ o ∈ ([⟨ptrs (some ⟨gp, 0, none⟩) m cp (qs.map pV), gp, elC 1 q [(0, ptrV p)]⟩] : List Sy.Open), OpenOk o := opens_cons (open_row (row := fun q => [pV q]) ⟨_, _, rfl⟩ (List.map_eq_flatMap ..) (fun _ => rfl) hp (by simp [pV]) (by simp)) opens_nil
    have re : ∀ (l0 : List (Nat × Nat × Value)) {l : List (Nat × Nat × Value)}, l = (gp, smul q 1 + 0, ptrV p) :: l0 → reV [⟨ptrs (some ⟨gp, 0, none⟩) m cp (qs.map pV), gp, elC 1 q [(0, ptrV p)]⟩] l = [ptrs (some ⟨gp, 0, none⟩) m cp (qs.map pV)] := fun l0 l hl => by
      subst hl
      simp only [reV, ptrs, reL_one, set_same hpq]
    have hqm' : (q : Int) < m := by omega
    have hqm2 : ¬ (m : Int) ≤ q := by omega
    cases hov : Sk.ended n r with
    | true =>
      have hfb : fB c n r (p, kb, bb) = pendB c r.k r.w r.b (Sk.akOf r.k) (Sk.abOf r.k r.b) (Sk.cellOf n r.k r.w + r.at_) (Sk.lastOf n r.k r.w) r.sum true p kb bb := by rw [← hov]; rfl
      refine Res.segO (F := cntB c cb ws n ++ pendB c r.k r.w r.b (Sk.akOf r.k) (Sk.abOf r.k r.b) (Sk.cellOf n r.k r.w + r.at_) (Sk.lastOf n r.k r.w) r.sum true p kb bb) (V := [wordsV ws n n n (xs.map u64V)]) host5 _ (stiS c cb ws n sb sf sn sc gp so m cp co xs i q p kb bb r.k r.w r.b (Sk.akOf r.k) (Sk.abOf r.k r.b) (Sk.cellOf n r.k r.w + r.at_) (Sk.lastOf n r.k r.w) r.sum true) stiS1_n (stiS1_1 c cb ws n sb sf sn sc gp so m cp co xs i q p kb bb r.k r.w r.b (Sk.akOf r.k) (Sk.abOf r.k r.b) (Sk.cellOf n r.k r.w + r.at_) (Sk.lastOf n r.k r.w) r.sum true) (stiS1_2 c cb ws n sb sf sn sc gp so m cp co xs i q p kb bb r.k r.w r.b (Sk.akOf r.k) (Sk.abOf r.k r.b) (Sk.cellOf n r.k r.w + r.at_) (Sk.lastOf n r.k r.w) r.sum true) _ (hfb ▸ hF) (ops) (hro) no_old no_ros rfl ?_ (fun _ _ => rfl) (fun _ _ => rfl) (fun _ _ => rfl) hfr5 fun ν j a6 w6 hfr6 hr6 => ?_
      · simp [stiS1_o, hqm', hqm2, hi', hlt]
      · obtain ⟨o, ho⟩ : ∃ o, o = stiS1_o c cb ws n sb sf sn sc gp so m cp co xs i q p kb bb r.k r.w r.b (Sk.akOf r.k) (Sk.abOf r.k r.b) (Sk.cellOf n r.k r.w + r.at_) (Sk.lastOf n r.k r.w) r.sum true ν j := ⟨_, rfl⟩
        rw [← ho] at hfr6 hr6
        have e1 : o.2.1 = stiK c (some ⟨sb, sf, none⟩) sn sc (some ⟨gp, 0, none⟩) so m cp co (i + 1) := by rw [ho]; simp only [stiS1_o, hw]; rfl
        have e2 : o.2.2.news = [] := by rw [ho]; rfl
        have e3 : o.2.2.blocks = cntB c cb ws n ++ fB c n r (p, kb, bb) := by rw [ho, hfb]; rfl
        have e4 : o.2.2.vecs = [wordsV ws n n n (xs.map u64V)] := by rw [ho]; rfl
        have e5 := re (elemL sb sf 1 i [(0, .int .i64 q)] usesC) (l := o.2.2.loose) (by rw [ho]; rfl)
        rw [e1] at hfr6
        rw [e2, e3, e4, e5, List.nil_append, List.append_assoc] at hr6
        exact hY (sn - (i + 1)) a6 w6 (by omega) ⟨i + 1, us, xs, rfl, hlt, hfr6, hr6.perm (perm_in (famB_focus hr hp)).symm (.refl _), hI.lu, hI.lq, hI.good, hI.inU, hI.bal⟩
    | false =>
      have hfb : fB c n r (p, kb, bb) = pendB c r.k r.w r.b (Sk.akOf r.k) (Sk.abOf r.k r.b) (Sk.cellOf n r.k r.w + r.at_) (Sk.lastOf n r.k r.w) r.sum false p kb bb := by rw [← hov]; rfl
      obtain ⟨_, _, _, _, _, _, z7, z8⟩ := Sk.sim hn0 (by omega) hg hov hI.inU
      have hcell : Sk.cellOf n r.k r.w + r.at_ = Sk.rcell n r.k r.w r.at_ := Sk.rcell_prog hg hov
      have hact : Sk.okAct (Sk.akOf r.k) (Sk.abOf r.k r.b) = true := (Sk.prog_live hn0 (by omega) hg).act
      refine Res.segO (F := cntB c cb ws n ++ pendB c r.k r.w r.b (Sk.akOf r.k) (Sk.abOf r.k r.b) (Sk.cellOf n r.k r.w + r.at_) (Sk.lastOf n r.k r.w) r.sum false p kb bb) (V := [wordsV ws n n n (xs.map u64V)]) host5 _ (stiS c cb ws n sb sf sn sc gp so m cp co xs i q p kb bb r.k r.w r.b (Sk.akOf r.k) (Sk.abOf r.k r.b) (Sk.cellOf n r.k r.w + r.at_) (Sk.lastOf n r.k r.w) r.sum false) stiS2_n (stiS2_1 c cb ws n sb sf sn sc gp so m cp co xs i q p kb bb r.k r.w r.b (Sk.akOf r.k) (Sk.abOf r.k r.b) (Sk.cellOf n r.k r.w + r.at_) (Sk.lastOf n r.k r.w) r.sum false) (stiS2_2 c cb ws n sb sf sn sc gp so m cp co xs i q p kb bb r.k r.w r.b (Sk.akOf r.k) (Sk.abOf r.k r.b) (Sk.cellOf n r.k r.w + r.at_) (Sk.lastOf n r.k r.w) r.sum false) _ (hfb ▸ hF) (ops) (hro) no_old no_ros rfl ?_ (fun _ _ => rfl) (fun _ _ => rfl) (fun _ _ => rfl) hfr5 fun ν j a6 w6 hfr6 hr6 => ?_
      · simp only [stiS2_o, all_u64, hcell]
        simp [hqm', hqm2, hi', hlt, z7, z8, hact]
      · obtain ⟨o, ho⟩ : ∃ o, o = stiS2_o c cb ws n sb sf sn sc gp so m cp co xs i q p kb bb r.k r.w r.b (Sk.akOf r.k) (Sk.abOf r.k r.b) (Sk.cellOf n r.k r.w + r.at_) (Sk.lastOf n r.k r.w) r.sum false ν j := ⟨_, rfl⟩
        rw [← ho] at hfr6 hr6
        have e1 : o.2.1 = stiK c (some ⟨sb, sf, none⟩) sn sc (some ⟨gp, 0, none⟩) so m cp co (i + 1) := by rw [ho]; simp only [stiS2_o, hw]; rfl
        have e2 : o.2.2.news = [] := by rw [ho]; rfl
        have e3 : o.2.2.blocks = cntB c cb ws n ++ fB c n (Sk.rnext n xs r) (p, kb, bb) := by
          rw [ho, ← step_blk hn0 (by omega) hg hov hI.inU]
          simp only [stiS2_o, map_valU]
          rfl
        have e4 : o.2.2.vecs = [wordsV ws n n n ((Sk.step xs (Sk.prog n r)).xs.map u64V)] := by
          rw [ho]
          simp only [stiS2_o, map_valU, rowNow]
          rfl
        have e5 := re (elemL sb sf 1 i [(0, .int .i64 q)] usesC) (l := o.2.2.loose) (by rw [ho]; rfl)
        rw [e1] at hfr6
        rw [e2, e3, e4, e5, List.nil_append, ← List.append_assoc] at hr6
        have hS := hI.stepped hr hp hn0 hn1 hov hr6
        exact hY (sn - (i + 1)) a6 w6 (by omega) ⟨i + 1, _, _, rfl, hlt, hfr6, hS⟩
  have hd : ¬ (i : Int) < sn := by omega
  refine Res.segV (F := []) (V := []) host5 _ (stiX c sa sn sc sp so m cp co i) stiX1_n (stiX1_1 c sa sn sc sp so m cp co i) (stiX1_2 c sa sn sc sp so m cp co i) (hI.res) (Looks.nil W) no_old no_ros rfl ?_ (fun _ _ => rfl) (fun _ _ => rfl) hfr5 fun ν j a6 w6 hfr6 hr6 => ?_
  · simp [stiX1_o, hd]
  have hfr6' : Fr _ (stiM c sp so m cp co 0 0 0) a6 := hfr6
  have hI6 : S2 W c cb ws n us qs sp so m cp co xs w6 := ⟨hr6, hI.lu, hI.lq, hI.good, hI.inU, hI.bal⟩
  clear hw0 hr6 hI hfr5 hfr6 hY
  refine loop_after (i := 14) (by kernel_rfl) (fun d a w => ∃ (i : Nat) (us : List RU) (xs : List Int), d = m - i ∧ i ≤ m ∧ (∀ j r, j < i → us[j]? = some r → Sk.ended n r = true) ∧ Fr Tryd.f3.ntmps (stiM c sp so m cp co (Sk.w64 (Sk.addS (us.take i))) (Sk.w64 (Sk.takS (us.take i))) i) a ∧ S2 W c cb ws n us qs sp so m cp co xs w) m ⟨0, us, xs, rfl, Nat.zero_le _, by omega, hfr6', hI6⟩ ?_
  clear hI6 hfr6' hd hi xs us
  rintro d a7 w7 ⟨i, us, xs, rfl, hi, hend, hfr7, hI⟩ Y1 hY1 _
  have hw0 : ∀ {i : Nat}, i < m → IntKind.i64.wrap ((i : Int) + 1) = ((i + 1 : Nat) : Int) := fun {i} hi => by
    have := hI.max
    unfold maxLen at this
    rw [wrap_i64 (by omega) (by omega)]; simp
  by_cases hlt : i < m
  · have hi' : (i : Int) < m := by omega
    refine Res.segV (F := []) (V := []) host5 _ (stiD c sp so m cp co (Sk.w64 (Sk.addS (us.take i))) (Sk.w64 (Sk.takS (us.take i))) i) stiD1_n (stiD1_1 c sp so m cp co (Sk.w64 (Sk.addS (us.take i))) (Sk.w64 (Sk.takS (us.take i))) i) (stiD1_2 c sp so m cp co (Sk.w64 (Sk.addS (us.take i))) (Sk.w64 (Sk.takS (us.take i))) i) (hI.res) (Looks.nil W) no_old no_ros rfl ?_ (fun _ _ => rfl) (fun _ _ => rfl) hfr7 fun ν j a8 w8 hfr8 hr8 => ?_
    · simp [stiD1_o, hlt]
    have hI8 : S2 W c cb ws n us qs sp so m cp co xs w8 := ⟨hr8, hI.lu, hI.lq, hI.good, hI.inU, hI.bal⟩
    obtain ⟨z, hz⟩ : ∃ z, z = Sk.w64 (Sk.addS (us.take i)) := ⟨_, rfl⟩
    obtain ⟨y, hy⟩ : ∃ y, y = Sk.w64 (Sk.takS (us.take i)) := ⟨_, rfl⟩
    have hfr8' : Fr Tryd.f3.ntmps (stiM c sp so m cp co z y i ++ [(16, .int .i64 (0 : Nat))]) a8 := by rw [hz, hy]; exact hfr8
    obtain ⟨⟨p, kb, bb⟩, hp⟩ : ∃ z, qs[i]? = some z := ⟨_, List.getElem?_eq_getElem (by rw [hI.lq]; exact hlt)⟩
    obtain ⟨_, _, hsp⟩ := res_len hI.res (List.mem_cons_of_mem _ (List.mem_cons_self ..))
    obtain ⟨gp, rfl⟩ := hsp (by omega)
    obtain ⟨_, _, hso⟩ := res_len hI.res (List.mem_cons_of_mem _ (List.mem_cons_of_mem _ (List.mem_cons_self ..)))
    obtain ⟨go, rfl⟩ := hso (by omega)
    have hpq : (qs.map pV)[i]? = some (ptrV p) := by rw [List.getElem?_map, hp]; rfl
    have re : ∀ (l0 : List (Nat × Nat × Value)) {l : List (Nat × Nat × Value)}, l = (gp, smul i 1 + 0, ptrV p) :: l0 → reV [⟨ptrs (some ⟨gp, 0, none⟩) m cp (qs.map pV), gp, elC 1 i [(0, ptrV p)]⟩] l = [ptrs (some ⟨gp, 0, none⟩) m cp (qs.map pV)] := fun l0 l hl => by
      subst hl
      simp only [reV, ptrs, reL_one, set_same hpq]
    have opP : OpenOk ⟨ptrs (some ⟨gp, 0, none⟩) m cp (qs.map pV), gp, elC 1 i [(0, ptrV p)]⟩ := open_row (row := fun q => [pV q]) ⟨_, _, rfl⟩ (List.map_eq_flatMap ..) (fun _ => rfl) hp (by simp [pV]) (by simp)
    have hr0 : ∃ r, us[i]? = some r := ⟨_, List.getElem?_eq_getElem (by rw [hI.lu]; exact hlt)⟩
    obtain ⟨r0, hr0⟩ := hr0
    refine loop_after (i := 17) (by kernel_rfl) (fun d a w => ∃ (st : Nat) (r : RU) (us' : List RU) (xs : List Int), us'[i]? = some r ∧ us'.take i = us.take i ∧ (∀ j r, j < i → us'[j]? = some r → Sk.ended n r = true) ∧ d = (65536 - r.at_).toNat ∧ (st : Int) ≤ r.at_ ∧ Fr Tryd.f3.ntmps (stiM c (some ⟨gp, 0, none⟩) (some ⟨go, 0, none⟩) m cp co z y i ++ [(16, .int .i64 st)]) a ∧ S2 W c cb ws n us' qs (some ⟨gp, 0, none⟩) (some ⟨go, 0, none⟩) m cp co xs w) (65536 - r0.at_).toNat ⟨0, r0, us, xs, hr0, rfl, hend, rfl, (hI.good r0 (List.mem_of_getElem? hr0)).at0, hfr8', hI8⟩ ?_
    clear hI8 hfr8' hfr8 hr8 hI hfr7 hend
    rintro d a9 w9 ⟨st, r, us', xs, hr, htk, hend, rfl, hst, hfr9, hI⟩ Y2 hY2 hYY
    have hg := hI.good r (List.mem_of_getElem? hr)
    have hF := hI.part hr hp
    have hmp := shst.many_pos' hn0 hn1 (k := r.k)
    cases hov : Sk.ended n r with
    | false =>
      have hat := of_decide_eq_false hov
      have hfb : fB c n r (p, kb, bb) = pendB c r.k r.w r.b (Sk.akOf r.k) (Sk.abOf r.k r.b) (Sk.cellOf n r.k r.w + r.at_) (Sk.lastOf n r.k r.w) r.sum false p kb bb := by rw [← hov]; rfl
      obtain ⟨_, _, _, _, _, _, z7, z8⟩ := Sk.sim hn0 (by omega) hg hov hI.inU
      have hcell : Sk.cellOf n r.k r.w + r.at_ = Sk.rcell n r.k r.w r.at_ := Sk.rcell_prog hg hov
      have hact : Sk.okAct (Sk.akOf r.k) (Sk.abOf r.k r.b) = true := (Sk.prog_live hn0 (by omega) hg).act
      have hmn : manyOf n r.k ≤ 64 := by unfold manyOf; split <;> omega
      have hst2 : ¬ (64 : Int) < st := by omega
      refine Res.segO (F := cntB c cb ws n ++ pendB c r.k r.w r.b (Sk.akOf r.k) (Sk.abOf r.k r.b) (Sk.cellOf n r.k r.w + r.at_) (Sk.lastOf n r.k r.w) r.sum false p kb bb) (V := [wordsV ws n n n (xs.map u64V)]) host5 _ (stiE c cb ws n gp go m cp co z y xs i st p kb bb r.k r.w r.b (Sk.akOf r.k) (Sk.abOf r.k r.b) (Sk.cellOf n r.k r.w + r.at_) (Sk.lastOf n r.k r.w) r.sum false) stiE1_n (stiE1_1 c cb ws n gp go m cp co z y xs i st p kb bb r.k r.w r.b (Sk.akOf r.k) (Sk.abOf r.k r.b) (Sk.cellOf n r.k r.w + r.at_) (Sk.lastOf n r.k r.w) r.sum false) (stiE1_2 c cb ws n gp go m cp co z y xs i st p kb bb r.k r.w r.b (Sk.akOf r.k) (Sk.abOf r.k r.b) (Sk.cellOf n r.k r.w + r.at_) (Sk.lastOf n r.k r.w) r.sum false) _ (hfb ▸ hF) (opens_cons opP opens_nil) (hlu) no_old no_ros rfl ?_ (fun _ _ => rfl) (fun _ _ => rfl) (fun _ _ => rfl) hfr9 fun ν j a6 w6 hfr6 hr6 => ?_
      · simp only [stiE1_o, all_u64, hcell]
        simp [hi', hlt, z7, z8, hact, hst2] <;> omega
      · obtain ⟨o, ho⟩ : ∃ o, o = stiE1_o c cb ws n gp go m cp co z y xs i st p kb bb r.k r.w r.b (Sk.akOf r.k) (Sk.abOf r.k r.b) (Sk.cellOf n r.k r.w + r.at_) (Sk.lastOf n r.k r.w) r.sum false ν j := ⟨_, rfl⟩
        rw [← ho] at hfr6 hr6
        have hws : IntKind.i64.wrap ((st : Int) + 1) = ((st + 1 : Nat) : Int) := by rw [wrap_i64 (by omega) (by omega)]; simp
        have e1 : o.2.1 = stiM c (some ⟨gp, 0, none⟩) (some ⟨go, 0, none⟩) m cp co z y i ++ [(16, .int .i64 ((st + 1 : Nat) : Int))] := by rw [ho]; simp only [stiE1_o, hws]; rfl
        have e2 : o.2.2.news = [] := by rw [ho]; rfl
        have e3 : o.2.2.blocks = cntB c cb ws n ++ fB c n (Sk.rnext n xs r) (p, kb, bb) := by
          rw [ho, ← step_blk hn0 (by omega) hg hov hI.inU]
          simp only [stiE1_o, map_valU]
          rfl
        have e4 : o.2.2.vecs = [wordsV ws n n n ((Sk.step xs (Sk.prog n r)).xs.map u64V)] := by
          rw [ho]
          simp only [stiE1_o, map_valU, rowNow]
          rfl
        have e5 := re usesC (l := o.2.2.loose) (by rw [ho]; rfl)
        rw [e1] at hfr6
        rw [e2, e3, e4, e5, List.nil_append, ← List.append_assoc] at hr6
        have hS := hI.stepped hr hp hn0 hn1 hov hr6
        have hw1 : IntKind.i64.wrap (r.at_ + 1) = r.at_ + 1 := Sk.wrap_same (by omega) (by omega)
        refine hY2 _ a6 w6 ?_ ⟨st + 1, Sk.rnext n xs r, us'.set i (Sk.rnext n xs r), _, List.getElem?_set_self (List.getElem?_eq_some_iff.1 hr).1, by rw [List.take_set_of_le (Nat.le_refl _)]; exact htk, fun j r' hj hjr => hend j r' hj (by rwa [List.getElem?_set_ne (by omega)] at hjr), rfl, ?_, hfr6, hS⟩
        · simp only [Sk.rnext, hw1]; omega
        · simp only [Sk.rnext, hw1]; omega
    | true =>
      have hfb : fB c n r (p, kb, bb) = pendB c r.k r.w r.b (Sk.akOf r.k) (Sk.abOf r.k r.b) (Sk.cellOf n r.k r.w + r.at_) (Sk.lastOf n r.k r.w) r.sum true p kb bb := by rw [← hov]; rfl
      have hF2 : Res W NoOld (fB c n r (p, kb, bb) ++ (famB (fB c n) (us'.eraseIdx i) (qs.eraseIdx i) ++ cntB c cb ws n)) [] ([] ++ ([opsV (some ⟨go, 0, none⟩) m co (us'.flatMap oRow), ptrs (some ⟨gp, 0, none⟩) m cp (qs.map pV)] ++ [wordsV ws n n n (xs.map u64V)])) w9 :=
        hF.perm (by rw [List.append_assoc]; exact perm3 _ _ _) ((perm3 [_] [_] [_]).trans (.swap ..))
      have ops : ∀ o ∈ ([⟨opsV (some ⟨go, 0, none⟩) m co (us'.flatMap oRow), go, elC 3 i [(0, .int .u8 r.k), (1, .int .i64 r.w), (2, .int .u64 r.b)]⟩, ⟨ptrs (some ⟨gp, 0, none⟩) m cp (qs.map pV), gp, elC 1 i [(0, ptrV p)]⟩] : List Sy.Open), OpenOk o :=
        opens_cons (open_row ⟨_, _, rfl⟩ rfl shst.oRow_len hr (by simp [oRow]) (by simp)) (opens_cons opP opens_nil)
      have fin : ∀ {o : Fin × List (Nat × Value) × Sy.Left} {z' y' : Int} {a6 : Act} {w6 : World}, Fr Tryd.f3.ntmps o.2.1 a6 → Res W NoOld (o.2.2.news ++ (o.2.2.blocks ++ (famB (fB c n) (us'.eraseIdx i) (qs.eraseIdx i) ++ cntB c cb ws n))) [] (o.2.2.vecs ++ (reV [⟨opsV (some ⟨go, 0, none⟩) m co (us'.flatMap oRow), go, elC 3 i [(0, .int .u8 r.k), (1, .int .i64 r.w), (2, .int .u64 r.b)]⟩, ⟨ptrs (some ⟨gp, 0, none⟩) m cp (qs.map pV), gp, elC 1 i [(0, ptrV p)]⟩] o.2.2.loose ++ [wordsV ws n n n (xs.map u64V)])) w6 →
          o.2.1 = stiM c (some ⟨gp, 0, none⟩) (some ⟨go, 0, none⟩) m cp co z' y' (i + 1) → o.2.2.news = [] → o.2.2.blocks = fB c n r (p, kb, bb) → o.2.2.vecs = [] → o.2.2.loose = opL go (elC 3 i [(0, .int .u8 r.k), (1, .int .i64 r.w), (2, .int .u64 r.b)]) (opL gp (elC 1 i [(0, ptrV p)]) []) →
          z' = Sk.w64 (Sk.addS (us'.take (i + 1))) → y' = Sk.w64 (Sk.takS (us'.take (i + 1))) → Y1 14 a6 w6 := fun {o z' y' a6 w6} hfr6 hr6 e1 e2 e3 e4 e5 e6 e7 => by
        rw [e1, e6, e7] at hfr6
        have er : reV [⟨opsV (some ⟨go, 0, none⟩) m co (us'.flatMap oRow), go, elC 3 i [(0, .int .u8 r.k), (1, .int .i64 r.w), (2, .int .u64 r.b)]⟩, ⟨ptrs (some ⟨gp, 0, none⟩) m cp (qs.map pV), gp, elC 1 i [(0, ptrV p)]⟩] o.2.2.loose = [opsV (some ⟨go, 0, none⟩) m co (us'.flatMap oRow), ptrs (some ⟨gp, 0, none⟩) m cp (qs.map pV)] := by
          rw [e5]
          simp only [reV, opsV, ptrs]
          rw [reL_row (u := r) (u' := r) shst.oRow_len hr (by simp) rfl, set_same hr]
          simp only [elC, opL, reR, reL, smul_eq, Nat.mul_one, Nat.add_zero, set_same hpq]
        rw [e2, e3, e4, er] at hr6
        refine hY1 (m - (i + 1)) a6 w6 (by omega) ⟨i + 1, us', xs, rfl, hlt, fun j r' hj hjr => ?_, hfr6, ⟨?_, hI.lu, hI.lq, hI.good, hI.inU, hI.bal⟩⟩
        · by_cases e : j = i
          · subst e
            rw [hr] at hjr
            cases hjr
            exact hov
          · exact hend j r' (by omega) hjr
        · have hpF : (fB c n r (p, kb, bb) ++ (famB (fB c n) (us'.eraseIdx i) (qs.eraseIdx i) ++ cntB c cb ws n)).Perm (cntB c cb ws n ++ famB (fB c n) us' qs) := (perm3 (fB c n r (p, kb, bb)) _ _).trans ((perm3 (famB (fB c n) (us'.eraseIdx i) (qs.eraseIdx i)) _ _).trans (perm_in (famB_focus hr hp).symm))
          exact hr6.perm hpF ((List.Perm.swap ..).trans (perm3 [_] [_] [_]).symm)
      have hts : us'.take (i + 1) = us'.take i ++ [r] := by rw [List.take_add_one, hr]; rfl
      have hI14 : Y2 14 = Y1 14 := hYY 14 (by decide)
      by_cases h1 : r.k = 1
      · refine Res.segO (F := pendB c r.k r.w r.b (Sk.akOf r.k) (Sk.abOf r.k r.b) (Sk.cellOf n r.k r.w + r.at_) (Sk.lastOf n r.k r.w) r.sum true p kb bb) (V := []) host5 _ (stiF c gp go m cp co z y i st p kb bb r.k r.w r.b (Sk.akOf r.k) (Sk.abOf r.k r.b) (Sk.cellOf n r.k r.w + r.at_) (Sk.lastOf n r.k r.w) r.sum true) stiF1_n (stiF1_1 c gp go m cp co z y i st p kb bb r.k r.w r.b (Sk.akOf r.k) (Sk.abOf r.k r.b) (Sk.cellOf n r.k r.w + r.at_) (Sk.lastOf n r.k r.w) r.sum true) (stiF1_2 c gp go m cp co z y i st p kb bb r.k r.w r.b (Sk.akOf r.k) (Sk.abOf r.k r.b) (Sk.cellOf n r.k r.w + r.at_) (Sk.lastOf n r.k r.w) r.sum true) _ (hfb ▸ hF2) (ops) (Looks.nil W) no_old no_ros rfl ?_ (fun _ _ => rfl) (fun _ _ => rfl) (fun _ _ => rfl) hfr9 fun ν j a6 w6 hfr6 hr6 => ?_
        · simp [stiF1_o, hi', hlt, h1]
        · show Y2 14 a6 w6
          rw [hI14]
          refine fin (o := stiF1_o c gp go m cp co z y i st p kb bb r.k r.w r.b (Sk.akOf r.k) (Sk.abOf r.k r.b) (Sk.cellOf n r.k r.w + r.at_) (Sk.lastOf n r.k r.w) r.sum true ν j) hfr6 hr6 (z' := _) (y' := _) (by simp only [stiF1_o, hw0 hlt]; rfl) rfl (by rw [hfb]; rfl) rfl rfl ?_ ?_
          · rw [hts, Sk.addS_snoc, hz, ← htk, h1]; simp [Sk.w64_eq]
          · rw [hts, Sk.takS_snoc, hy, ← htk, h1]; simp [Sk.w64_eq]
      by_cases h4 : r.k = 4
      · refine Res.segO (F := pendB c r.k r.w r.b (Sk.akOf r.k) (Sk.abOf r.k r.b) (Sk.cellOf n r.k r.w + r.at_) (Sk.lastOf n r.k r.w) r.sum true p kb bb) (V := []) host5 _ (stiF c gp go m cp co z y i st p kb bb r.k r.w r.b (Sk.akOf r.k) (Sk.abOf r.k r.b) (Sk.cellOf n r.k r.w + r.at_) (Sk.lastOf n r.k r.w) r.sum true) stiF2_n (stiF2_1 c gp go m cp co z y i st p kb bb r.k r.w r.b (Sk.akOf r.k) (Sk.abOf r.k r.b) (Sk.cellOf n r.k r.w + r.at_) (Sk.lastOf n r.k r.w) r.sum true) (stiF2_2 c gp go m cp co z y i st p kb bb r.k r.w r.b (Sk.akOf r.k) (Sk.abOf r.k r.b) (Sk.cellOf n r.k r.w + r.at_) (Sk.lastOf n r.k r.w) r.sum true) _ (hfb ▸ hF2) (ops) (Looks.nil W) no_old no_ros rfl ?_ (fun _ _ => rfl) (fun _ _ => rfl) (fun _ _ => rfl) hfr9 fun ν j a6 w6 hfr6 hr6 => ?_
        · simp [stiF2_o, hi', hlt, h4]
        · show Y2 14 a6 w6
          rw [hI14]
          refine fin (o := stiF2_o c gp go m cp co z y i st p kb bb r.k r.w r.b (Sk.akOf r.k) (Sk.abOf r.k r.b) (Sk.cellOf n r.k r.w + r.at_) (Sk.lastOf n r.k r.w) r.sum true ν j) hfr6 hr6 (z' := _) (y' := _) (by simp only [stiF2_o, hw0 hlt]; rfl) rfl (by rw [hfb]; rfl) rfl rfl ?_ ?_
          · rw [hts, Sk.addS_snoc, hz, ← htk, h4]; simp [Sk.w64_eq]
          · rw [hts, Sk.takS_snoc, hy, ← htk, h4]; simp [Sk.w64_eq]
      · refine Res.segO (F := pendB c r.k r.w r.b (Sk.akOf r.k) (Sk.abOf r.k r.b) (Sk.cellOf n r.k r.w + r.at_) (Sk.lastOf n r.k r.w) r.sum true p kb bb) (V := []) host5 _ (stiF c gp go m cp co z y i st p kb bb r.k r.w r.b (Sk.akOf r.k) (Sk.abOf r.k r.b) (Sk.cellOf n r.k r.w + r.at_) (Sk.lastOf n r.k r.w) r.sum true) stiF3_n (stiF3_1 c gp go m cp co z y i st p kb bb r.k r.w r.b (Sk.akOf r.k) (Sk.abOf r.k r.b) (Sk.cellOf n r.k r.w + r.at_) (Sk.lastOf n r.k r.w) r.sum true) (stiF3_2 c gp go m cp co z y i st p kb bb r.k r.w r.b (Sk.akOf r.k) (Sk.abOf r.k r.b) (Sk.cellOf n r.k r.w + r.at_) (Sk.lastOf n r.k r.w) r.sum true) _ (hfb ▸ hF2) (ops) (Looks.nil W) no_old no_ros rfl ?_ (fun _ _ => rfl) (fun _ _ => rfl) (fun _ _ => rfl) hfr9 fun ν j a6 w6 hfr6 hr6 => ?_
        · simp [stiF3_o, hi', hlt, h1, h4]
        · show Y2 14 a6 w6
          rw [hI14]
          refine fin (o := stiF3_o c gp go m cp co z y i st p kb bb r.k r.w r.b (Sk.akOf r.k) (Sk.abOf r.k r.b) (Sk.cellOf n r.k r.w + r.at_) (Sk.lastOf n r.k r.w) r.sum true ν j) hfr6 hr6 (z' := _) (y' := _) (by simp only [stiF3_o, hw0 hlt]; rfl) rfl (by rw [hfb]; rfl) rfl rfl ?_ ?_
          · rw [hts, Sk.addS_snoc, hz, ← htk]; simp [h1]
          · rw [hts, Sk.takS_snoc, hy, ← htk]; simp [h4]
  · have hd : ¬ (i : Int) < m := by omega
    have htk : us.take i = us := List.take_of_length_le (by rw [hI.lu]; omega)
    obtain ⟨q1, q2⟩ := Sk.run_sum3 hn0 (by omega) hI.len
    have hbal := hI.bal
    unfold Sk.Bal at hbal
    rw [Sk.gsum_ended hn0 (by omega) (fun r hr => ⟨hI.good r hr, by
      obtain ⟨j, hj⟩ := List.mem_iff_getElem?.1 hr
      exact hend j r (by have := (List.getElem?_eq_some_iff.1 hj).1; rw [hI.lu] at this; omega) hj⟩)] at hbal
    have hsum : Sk.w64 (Sk.tot xs) = Sk.w64 (Sk.w64 (Sk.addS us) - Sk.w64 (Sk.takS us)) := by simp only [Sk.w64_eq]; omega
    rw [htk] at hfr7
    refine Res.segV (F := cntB c cb ws n) (V := [wordsV ws n n n (xs.map u64V)]) host5 _ (stiY c cb ws n sp so m cp co (Sk.w64 (Sk.addS us)) (Sk.w64 (Sk.takS us)) xs i) stiY1_n (stiY1_1 c cb ws n sp so m cp co (Sk.w64 (Sk.addS us)) (Sk.w64 (Sk.takS us)) xs i) (stiY1_2 c cb ws n sp so m cp co (Sk.w64 (Sk.addS us)) (Sk.w64 (Sk.takS us)) xs i) (hI.res) (hlu) no_old no_ros rfl ?_ (fun _ _ => rfl) (fun _ _ => rfl) hfr7 fun ν j a8 w8 hfr8 hr8 => ?_
    · simp only [stiY1_o, map_valU, all_u64, rowNow, q1, q2]
      simp [hd, hn0, hsum]
    · refine ⟨?_, res_old hr8⟩
      simp only [map_valU, rowNow, q1, q2, hsum]
      simp [Sk.w64]
end Go.Proofs.YtfdgggikjnoghaaDoor.still
