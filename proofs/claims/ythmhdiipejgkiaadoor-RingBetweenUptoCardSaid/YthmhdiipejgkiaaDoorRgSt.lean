/- RingStill: the walk whole. -/
import Derived.Test.YthmhdiipejgkiaaDoorRgStB
set_option linter.unusedSimpArgs false
set_option linter.unusedVariables false
namespace Go.Proofs.YthmhdiipejgkiaaDoor.rstill
open Go Sy Close
set_option maxRecDepth 100000
open Rg (RP Inv)
open rgs (fB oRow fnOf)
theorem body : Tryd.f4.body = some (codeOf Tryd.f4) := by kernel_rfl
theorem ntmps : 4 ≤ Tryd.f4.ntmps := by decide +kernel
theorem map_set_same {α β : Type} {f : α → β} {us : List α} {j : Nat} {u u' : α} (h : us[j]? = some u) (e : f u' = f u) : (us.set j u').map f = us.map f := by
  rw [List.map_set, e, set_same (by rw [List.getElem?_map, h]; rfl)]
def key (u : RP) : Int × Int := (u.t, u.N)
theorem stp_key (n : Nat) (w : Int) (xs : List Int) (u : RP) (b : Bool) : key { (Rg.stp n w xs u).2 with bg := b } = key u := by
  unfold Rg.stp
  split
  · rfl
  · split
    · split <;> rfl
    · rfl
def meas (n : Nat) (w : Int) (xs : List Int) (u : RP) : Nat := if u.done = true then 0 else if u.sw = true then (if seeAt xs (Rg.at_ (u.t / w) n) = u.saw then 1 else 3) else 2
theorem meas_le (n : Nat) (w : Int) (xs : List Int) (u : RP) : meas n w xs u ≤ 3 := by
  unfold meas
  split
  · omega
  · split
    · split <;> omega
    · omega
theorem meas_step {n : Nat} {w : Int} {xs : List Int} {u : RP} {b : Bool} (hd : u.done = false) : meas n w (Rg.stp n w xs u).1 { (Rg.stp n w xs u).2 with bg := b } + 1 ≤ meas n w xs u := by
  unfold Rg.stp
  by_cases hs : u.sw = true
  · by_cases hx : seeAt xs (Rg.at_ (u.t / w) n) = u.saw
    · simp [meas, hd, hs, hx]
    · simp [meas, hd, hs, hx]
  · simp [meas, hd, hs]
theorem late_snoc (l : List (Int × Int)) (u : Int × Int) : Rg.late (l ++ [u]) = if u.1 > Rg.late l then u.1 else Rg.late l := by simp [Rg.late]
theorem re_ptr {gp m cp q p : Nat} {qs : List Nat} (h : qs[q]? = some p) (l0 : List (Nat × Nat × Value)) {l : List (Nat × Nat × Value)} (hl : l = (gp, smul q 1 + 0, ptrV p) :: l0) : reV [⟨rptrs (some ⟨gp, 0, none⟩) m cp (qs.map ptrV), gp, elC 1 q [(0, ptrV p)]⟩] l = [rptrs (some ⟨gp, 0, none⟩) m cp (qs.map ptrV)] := by
  subst hl
  simp only [reV, rptrs, reL_one]
  rw [set_same (by rw [List.getElem?_map, h]; rfl)]
structure St (W : World) (c cb ws n : Nat) (w lo : Int) (l : List (Int × Int)) (us : List RP) (qs : List Nat) (sp : Option Addr) (m cp : Nat) (xs : List Int) (w1 : World) : Prop where
  res : Res W NoOld (rgB c cb ws n w ++ (famB (fB c w) us qs ++ [])) [] ([wordsV ws n n n (xs.map u64V)] ++ [rptrs sp m cp (qs.map ptrV)]) w1
  lu : us.length = m
  lq : qs.length = m
  inv : Inv n w lo xs us
  key : us.map key = l
/-- One action. -/
theorem St.step {W : World} {c cb ws n : Nat} {w lo : Int} {l : List (Int × Int)} {us : List RP} {qs : List Nat} {sp : Option Addr} {m cp : Nat} {xs : List Int} {w1 : World} (h : St W c cb ws n w lo l us qs sp m cp xs w1) (hn1 : n ≤ 4096) (hlu : Sy.Looks W usesC) {j : Nat} {u : RP} {p : Nat} (hu : us[j]? = some u) (hp : qs[j]? = some p) :
    Calls Tryd.prog 19 #[ptrV p] w1 fun e w2 => ∃ v, e = .returned v ∧ St W c cb ws n w lo l (us.set j { (Rg.stp n w xs u).2 with bg := false }) qs sp m cp (Rg.stp n w xs u).1 w2 := by
  refine (rgs.astep h.inv hn1 hlu hu hp h.res false).mono ?_
  rintro e w2 ⟨v, rfl, hr⟩
  exact ⟨v, rfl, hr, by simp [h.lu], h.lq, Rg.step_inv h.inv hu, by rw [map_set_same hu (stp_key ..)]; exact h.key⟩
theorem calls {W : World} (n w : Int) {oa : Option Addr} {on oc : Nat} {l0 : List rgop.Op} {sa : Option Addr} {sn sc : Nat} {ks : List Int} (hl : l0.length = on) (hcap : on ≤ oc) (hmax : oc ≤ maxLen) (hel : ∀ i y, l0[i]? = some y → Elem W oa 3 i y.row)
    (hl2 : ks.length = sn) (hcap2 : sn ≤ sc) (hmax2 : sc ≤ maxLen) (hel2 : ∀ i y, ks[i]? = some y → Elem W sa 1 i (intRow y)) (hb : on ≤ 1048576) (hU : UsesAt W) :
    Calls Tryd.prog 4 #[.int .i64 n, .int .i64 w, .slice oa on oc, .slice sa sn sc] W (Done W) := by
  have hlu := looksUses hU
  refine calls_after (X := fun _ _ _ => False) Tryd.func4 body ntmps fun a1 ha => ?_
  cases hok : Rg.okNew n w with
  | false =>
    refine Res.segV (F := []) (GF := []) (V := []) (GV := []) hostL _ (rtA n w oa on oc sa sn sc) rtA1_n (rtA1_1 n w oa on oc sa sn sc) (rtA1_2 n w oa on oc sa sn sc) (Res.start) (hlu) no_old no_ros rfl ?_ (fun _ _ => rfl) (fun _ _ => rfl) ha fun ν j a2 w2 hfr2 hr2 => ?_
    · simp [rtA1_o, hok]
    · exact ⟨rfl, res_old hr2⟩
  | true =>
  have hok' := hok
  simp only [Rg.okNew, Bool.and_eq_true, decide_eq_true_eq] at hok'
  obtain ⟨⟨⟨h1, h2⟩, hw⟩, h4⟩ := hok'
  obtain ⟨n, rfl⟩ : ∃ n' : Nat, n = n' := ⟨n.toNat, by omega⟩
  have hn0 : 0 < n := by omega
  have hn1 : n ≤ 4096 := by omega
  refine Res.segV (F := []) (GF := []) (V := []) (GV := []) hostL _ (rtA n w oa on oc sa sn sc) rtA2_n (rtA2_1 n w oa on oc sa sn sc) (rtA2_2 n w oa on oc sa sn sc) (Res.start) (hlu) no_old no_ros rfl ?_ (fun _ _ => rfl) (fun _ _ => rfl) ha fun ν j a2 w2 hfr2 hr2 => ?_
  · simp [rtA2_o, hok]
  obtain ⟨o, ho⟩ : ∃ o, o = rtA2_o n w oa on oc sa sn sc ν j := ⟨_, rfl⟩
  rw [← ho] at hfr2 hr2
  obtain ⟨c, cb, ws, e0, e1, e2, e3⟩ : ∃ c cb ws, o.1 = .call 17 #[.int .i64 n, .int .i64 w, .slice oa on oc] (some 55) (regAt Tryd.f4 6).1 ((regAt Tryd.f4 6).1.toList.drop 4) (regAt Tryd.f4 6).2 ∧ o.2.1 = [(0, .int .i64 n), (3, .slice sa sn sc), (9, ptrV c)] ∧ o.2.2.news = [(cb, 101, [.slice (some ⟨ws, 0, none⟩) n n]), (c, 81, [ptrV cb, .int .i64 n, .int .i64 w])] ∧ o.2.2.vecs = [wordsV ws n n n ((List.replicate n (0 : Int)).map u64V)] := by
    rw [ho]; exact ⟨_, _, _, rfl, rfl, rfl, rfl⟩
  have e4 : o.2.2.blocks = [] := by rw [ho]; rfl
  rw [← ho, e0]
  rw [e1] at hfr2
  rw [e2, e3, e4] at hr2
  have hres : Res W NoOld (rgB c cb ws n w) [] [wordsV ws n n n ((List.replicate n (0 : Int)).map u64V)] w2 := hr2.perm (List.Perm.swap ..) (.refl _)
  refine (rgs.near hl hcap hmax hel hb hn0 hn1 hw hres).mono ?_
  rintro e w3 ⟨l, so, m, co, lo, hi, rfl, hmo, hlen, hN, hr3⟩
  refine ⟨_, rfl, ?_⟩
  obtain ⟨⟨hla0, hla1, hla2⟩, hinv, hqs⟩ := hN.inv hn0 hw
  have hfr3 := hfr2.put (d := 55) (v := .slice so m co) (by decide +kernel) [(0, .int .i64 n), (3, .slice sa sn sc), (9, ptrV c)] (by simp) (by simp)
  refine Res.segV (F := []) (V := []) hostL _ (rtB c n sa sn sc so m co) rtB1_n (rtB1_1 c n sa sn sc so m co) (rtB1_2 c n sa sn sc so m co) (hr3) (Looks.nil W) no_old no_ros rfl ?_ (fun _ _ => rfl) (fun _ _ => rfl) hfr3 fun ν j a4 w4 hfr4 hr4 => ?_
  · simp [rtB1_o]
  have hfr4 : Fr Tryd.f4.ntmps (rtL c n sa sn sc so m co none 0 (((l.take 0).map Prod.snd).sum) (Rg.late (l.take 0)) 0) a4 := hfr4
  have hr4 : Res W NoOld (rgB c cb ws n w ++ (famB (fB c w) ((l.take 0).map Rg.rp0) [] ++ [])) [] ([rptrs none 0 0 (([] : List Nat).map ptrV)] ++ [ropsV so m co (l.flatMap oRow), wordsV ws n n n ((List.replicate n (0 : Int)).map u64V)]) w4 := res_nil (hr4.perm (by simp [famB, rtB1_o, rgB]) (.refl _)) _ _
  have hw0 : ∀ {i : Nat}, i < m → IntKind.i64.wrap ((i : Int) + 1) = ((i + 1 : Nat) : Int) := fun {i} hi => by rw [wrap_i64 (by omega) (by omega)]; simp
  refine loop_after (i := 11) (by kernel_rfl) (fun d a w1 => ∃ (i : Nat) (qs : List Nat) (sp : Option Addr) (cp : Nat), d = m - i ∧ i ≤ m ∧ qs.length = i ∧ Fr Tryd.f4.ntmps (rtL c n sa sn sc so m co sp cp (((l.take i).map Prod.snd).sum) (Rg.late (l.take i)) i) a ∧
    Res W NoOld (rgB c cb ws n w ++ (famB (fB c w) ((l.take i).map Rg.rp0) qs ++ [])) [] ([rptrs sp i cp (qs.map ptrV)] ++ [ropsV so m co (l.flatMap oRow), wordsV ws n n n ((List.replicate n (0 : Int)).map u64V)]) w1) m ⟨0, [], none, 0, rfl, Nat.zero_le _, rfl, hfr4, hr4⟩ ?_
  clear hr4 hfr4 hfr3 hr3 hr2 hfr2 hres e0 e1 e2 e3 e4 ho o
  rintro d a5 w5 ⟨i, qs, sp, cp, rfl, hi, hlq, hfr5, hr5⟩ Y hY _
  by_cases hlt : i < m
  · obtain ⟨⟨t, N⟩, hu⟩ : ∃ u, l[i]? = some u := ⟨_, List.getElem?_eq_getElem (by omega)⟩
    obtain ⟨ht0, ht1, hq1, hN0, hN1, _, _⟩ := hN.ok _ (List.mem_of_getElem? hu)
    simp only at ht0 ht1 hq1 hN0 hN1
    obtain ⟨_, _, hso⟩ := res_len hr5 (List.mem_cons_of_mem _ (List.mem_cons_self ..))
    obtain ⟨go, rfl⟩ := hso (by omega)
    have hi' : (i : Int) < m := by omega
    have hqq := Rg.tdiv_eq ht0 ht1 hw
    have hwz : ¬ w = 0 := by omega
    have htk : l.take (i + 1) = l.take i ++ [(t, N)] := by rw [List.take_add_one, hu]; rfl
    have htot : (((l.take (i + 1)).map Prod.snd).sum) = ((l.take i).map Prod.snd).sum + N := by rw [htk, List.map_append, List.sum_append]; simp
    have hs0 : 0 ≤ ((l.take i).map Prod.snd).sum := Rg.sum_nonneg fun u hu => (hN.ok u (List.mem_of_mem_take hu)).2.2.2.1
    have hs1 : ((l.take i).map Prod.snd).sum + N ≤ 4294967295 := by
      have h0 : 0 ≤ ((l.drop (i + 1)).map Prod.snd).sum := Rg.sum_nonneg fun u hu => (hN.ok u (List.mem_of_mem_drop hu)).2.2.2.1
      have := hN.tot
      rw [← List.take_append_drop (i + 1) l, List.map_append, List.sum_append, htot] at this
      omega
    have hsw : IntKind.u64.wrap (((l.take i).map Prod.snd).sum + N) = ((l.take (i + 1)).map Prod.snd).sum := by rw [htot, Rg.wrap_u]; unfold Rg.w64; omega
    have ops : ∀ o ∈ ([⟨ropsV (some ⟨go, 0, none⟩) m co (l.flatMap oRow), go, elC 3 i (ropK 1 t N)⟩] : List Sy.Open), OpenOk o := opens_cons (open_row ⟨_, _, rfl⟩ rfl rgs.oRow_len hu (by simp [oRow, ropK]) (by simp [ropK])) opens_nil
    refine Res.segO (F := rgB c cb ws n w) (V := [rptrs sp i cp (qs.map ptrV)]) hostL _ (rtC c cb ws n w sa sn sc go m co sp cp (qs.map ptrV) (((l.take i).map Prod.snd).sum) (Rg.late (l.take i)) i t N) rtC1_n (rtC1_1 c cb ws n w sa sn sc go m co sp cp (qs.map ptrV) (((l.take i).map Prod.snd).sum) (Rg.late (l.take i)) i t N) (rtC1_2 c cb ws n w sa sn sc go m co sp cp (qs.map ptrV) (((l.take i).map Prod.snd).sum) (Rg.late (l.take i)) i t N) _ (hr5) (ops) (Looks.nil W) no_old no_ros rfl ?_ (fun _ _ => rfl) (fun _ _ => rfl) (fun _ _ => rfl) hfr5 fun ν j a6 w6 hfr6 hr6 => ?_
    · simp only [rtC1_o, hqq]
      simp [hi', hlt, hwz, rptrs, addV_eq, maxLen] <;> omega
    · obtain ⟨o, ho⟩ : ∃ o, o = rtC1_o c cb ws n w sa sn sc go m co sp cp (qs.map ptrV) (((l.take i).map Prod.snd).sum) (Rg.late (l.take i)) i t N ν j := ⟨_, rfl⟩
      rw [← ho] at hfr6 hr6
      obtain ⟨p, gp, cp', e1, e2, e3⟩ : ∃ p gp cp', o.2.1 = rtL c n sa sn sc (some ⟨go, 0, none⟩) m co (some ⟨gp, 0, none⟩) cp' (((l.take (i + 1)).map Prod.snd).sum) (Rg.late (l.take (i + 1))) (i + 1) ∧ o.2.2.news = fB c w (Rg.rp0 (t, N)) p ∧ o.2.2.vecs = [rptrs (some ⟨gp, 0, none⟩) (i + 1) cp' (qs.map ptrV ++ [ptrV p])] := by
        rw [ho]
        simp only [rtC1_o, hw0 hlt, hqq, hsw, addV_eq]
        refine ⟨_, _, _, ?_, rfl, rfl⟩
        rw [show Rg.late (l.take (i + 1)) = _ from by rw [htk, late_snoc]]
        rfl
      have e4 : o.2.2.blocks = rgB c cb ws n w := by rw [ho]; rfl
      have e5 : reV [⟨ropsV (some ⟨go, 0, none⟩) m co (l.flatMap oRow), go, elC 3 i (ropK 1 t N)⟩] o.2.2.loose = [ropsV (some ⟨go, 0, none⟩) m co (l.flatMap oRow)] := by
        rw [show o.2.2.loose = opL go (elC 3 i (ropK 1 t N)) [] by rw [ho]; rfl]
        simp only [reV, ropsV]
        rw [reL_row (u := (t, N)) (u' := (t, N)) rgs.oRow_len hu (by simp [ropK]) rfl, set_same hu]
      rw [e1] at hfr6
      rw [e2, e3, e4, e5] at hr6
      refine hY _ a6 w6 (by omega) ⟨i + 1, qs ++ [p], _, cp', rfl, hlt, by simp [hlq], hfr6, ?_⟩
      rw [htk, List.map_append, List.map_cons, List.map_nil, famB_push (by simp; omega), List.map_append]
      refine hr6.perm ((perm3 _ _ _).trans (perm_in ?_)) (.refl _)
      rw [List.append_assoc, List.append_assoc]
      exact perm_in List.perm_append_comm
  have hd : ¬ (i : Int) < m := by omega
  have hin : i = m := by omega
  subst hin
  have htk : l.take i = l := List.take_of_length_le (by omega)
  rw [htk] at hfr5 hr5
  refine Res.segV (F := []) (V := []) hostL _ (rtD c n sa sn sc so i co sp cp ((l.map Prod.snd).sum) (Rg.late l) i) rtD1_n (rtD1_1 c n sa sn sc so i co sp cp ((l.map Prod.snd).sum) (Rg.late l) i) (rtD1_2 c n sa sn sc so i co sp cp ((l.map Prod.snd).sum) (Rg.late l) i) (hr5) (Looks.nil W) no_old no_ros rfl ?_ (fun _ _ => rfl) (fun _ _ => rfl) hfr5 fun ν j a6 w6 hfr6 hr6 => ?_
  · simp [rtD1_o, hd]
  obtain ⟨tot, htot⟩ : ∃ x, x = (l.map Prod.snd).sum := ⟨_, rfl⟩
  obtain ⟨la, hla⟩ : ∃ x, x = Rg.late l := ⟨_, rfl⟩
  rw [← hla] at hla0 hla1 hla2 hinv hqs
  have hfr6 : Fr Tryd.f4.ntmps (rtS c n sa sn sc sp i cp tot la 0) a6 := by rw [htot, hla]; exact hfr6
  have hS6 : St W c cb ws n w (Rg.k0 (la / w) n) l (l.map Rg.rp0) qs sp i cp (List.replicate n 0) w6 := by
    refine ⟨?_, by simp [hlen], hlq, hinv, ?_⟩
    · refine (hr6.less (F' := rgB c cb ws n w ++ (famB (fB c w) (l.map Rg.rp0) qs ++ [])) (V' := [rptrs sp i cp (qs.map ptrV), wordsV ws n n n ((List.replicate n (0 : Int)).map u64V)]) (.refl _) (.refl _) ?_).perm (.refl _) (.swap ..)
      exact .cons_cons _ (.cons _ (.refl _))
    · rw [List.map_map]
      exact List.map_id' _
  clear hr6 hr5 hfr5
  generalize i = m at *
  refine loop_after (i := 21) (by kernel_rfl) (fun d a w1 => ∃ (i : Nat) (us : List RP) (xs : List Int), d = sn - i ∧ i ≤ sn ∧ Fr Tryd.f4.ntmps (rtS c n sa sn sc sp m cp tot la i) a ∧ St W c cb ws n w (Rg.k0 (la / w) n) l us qs sp m cp xs w1) sn ⟨0, _, _, rfl, Nat.zero_le _, hfr6, hS6⟩ ?_
  clear hS6 hfr6
  rintro d a5 w5 ⟨i, us, xs, rfl, hi, hfr5, hI⟩ Y hY _
  by_cases hlt : i < sn
  · obtain ⟨kv, hk⟩ : ∃ k, ks[i]? = some k := ⟨_, List.getElem?_eq_getElem (by omega)⟩
    have he := hel2 i kv hk
    obtain ⟨sb, sf, rfl, _⟩ := hel2 i kv hk
    have hro := ro_elem' he [(0, .int .i64 kv)] (by simp [intRow]) (by simp)
    have hws := wrap_next hlt hcap2 hmax2
    have hi' : (i : Int) < sn := by omega
    by_cases hk0 : kv < 0
    · refine Res.segV (F := []) (V := []) hostL _ (rtE c n sb sf sn sc sp m cp tot la i kv) rtE1_n (rtE1_1 c n sb sf sn sc sp m cp tot la i kv) (rtE1_2 c n sb sf sn sc sp m cp tot la i kv) (hI.res) (hro) no_old no_ros rfl ?_ (fun _ _ => rfl) (fun _ _ => rfl) hfr5 fun ν j a6 w6 hfr6 hr6 => ?_
      · simp [rtE1_o, hlt, hk0]
      · simp only [rtE1_o, hws] at hfr6
        exact hY (sn - (i + 1)) a6 w6 (by omega) ⟨i + 1, us, xs, rfl, hlt, hfr6, hr6, hI.lu, hI.lq, hI.inv, hI.key⟩
    by_cases hkm : kv ≥ m
    · refine Res.segV (F := []) (V := []) hostL _ (rtE c n sb sf sn sc sp m cp tot la i kv) rtE2_n (rtE2_1 c n sb sf sn sc sp m cp tot la i kv) (rtE2_2 c n sb sf sn sc sp m cp tot la i kv) (hI.res) (hro) no_old no_ros rfl ?_ (fun _ _ => rfl) (fun _ _ => rfl) hfr5 fun ν j a6 w6 hfr6 hr6 => ?_
      · simp [rtE2_o, hlt, hk0, hkm] <;> omega
      · simp only [rtE2_o, hws] at hfr6
        exact hY (sn - (i + 1)) a6 w6 (by omega) ⟨i + 1, us, xs, rfl, hlt, hfr6, hr6, hI.lu, hI.lq, hI.inv, hI.key⟩
    obtain ⟨q, rfl⟩ : ∃ q : Nat, kv = q := ⟨kv.toNat, by omega⟩
    have hqm : q < m := by omega
    obtain ⟨u, hu⟩ : ∃ u, us[q]? = some u := ⟨_, List.getElem?_eq_getElem (by rw [hI.lu]; exact hqm)⟩
    obtain ⟨p, hp⟩ : ∃ z, qs[q]? = some z := ⟨_, List.getElem?_eq_getElem (by rw [hI.lq]; exact hqm)⟩
    obtain ⟨_, _, hsp⟩ := res_len hI.res (List.mem_cons_of_mem _ (List.mem_cons_self ..))
    obtain ⟨gp, rfl⟩ := hsp (by omega)
    have hpq : (qs.map ptrV)[q]? = some (ptrV p) := by rw [List.getElem?_map, hp]; rfl
    have ops : ∀ o ∈ ([⟨rptrs (some ⟨gp, 0, none⟩) m cp (qs.map ptrV), gp, elC 1 q [(0, ptrV p)]⟩] : List Sy.Open), OpenOk o := opens_cons (open_row (row := fun q => [ptrV q]) ⟨_, _, rfl⟩ (List.map_eq_flatMap ..) (fun _ => rfl) hp (by simp) (by simp)) opens_nil
    have hF : Res W NoOld ([] ++ (rgB c cb ws n w ++ (famB (fB c w) us qs ++ []))) [] ([] ++ ([rptrs (some ⟨gp, 0, none⟩) m cp (qs.map ptrV)] ++ [wordsV ws n n n (xs.map u64V)])) w5 := hI.res.perm (.refl _) (.swap ..)
    refine Res.segO (F := []) (V := []) hostL _ (rtF c n sb sf sn sc gp m cp tot la i q p) rtF1_n (rtF1_1 c n sb sf sn sc gp m cp tot la i q p) (rtF1_2 c n sb sf sn sc gp m cp tot la i q p) _ (hF) (ops) (hro) no_old no_ros rfl ?_ (fun _ _ => rfl) (fun _ _ => rfl) (fun _ _ => rfl) hfr5 fun ν j a6 w6 hfr6 hr6 => ?_
    · simp [rtF1_o, hlt, hqm]
    · have e5 : reV [⟨rptrs (some ⟨gp, 0, none⟩) m cp (qs.map ptrV), gp, elC 1 q [(0, ptrV p)]⟩] (rtF1_o c n sb sf sn sc gp m cp tot la i q p ν j).2.2.loose = [rptrs (some ⟨gp, 0, none⟩) m cp (qs.map ptrV)] := re_ptr hp _ (by simp only [rtF1_o]; rfl)
      have hS6 : St W c cb ws n w (Rg.k0 (la / w) n) l us qs (some ⟨gp, 0, none⟩) m cp xs w6 := by
        rw [e5] at hr6
        exact ⟨hr6.perm (by simp [rtF1_o]) (by simp only [rtF1_o]; exact .swap ..), hI.lu, hI.lq, hI.inv, hI.key⟩
      refine (hS6.step hn1 hlu hu hp).mono ?_
      rintro e w7 ⟨v, rfl, hS7⟩
      refine ⟨v, rfl, ?_⟩
      have hfr7 := (hfr6.put (d := 105) (v := v) (by decide +kernel) (rtS c n (some ⟨sb, sf, none⟩) sn sc (some ⟨gp, 0, none⟩) m cp tot la i) (fun x hx => hx) (by simp [rtS, rtK])).less (fun x hx => List.mem_cons_of_mem _ hx)
      refine Res.segV (F := []) (V := []) hostL _ (rtG c n (some ⟨sb, sf, none⟩) sn sc (some ⟨gp, 0, none⟩) m cp tot la i) rtG1_n (rtG1_1 c n (some ⟨sb, sf, none⟩) sn sc (some ⟨gp, 0, none⟩) m cp tot la i) (rtG1_2 c n (some ⟨sb, sf, none⟩) sn sc (some ⟨gp, 0, none⟩) m cp tot la i) (hS7.res) (Looks.nil W) no_old no_ros rfl ?_ (fun _ _ => rfl) (fun _ _ => rfl) hfr7 fun ν j a8 w8 hfr8 hr8 => ?_
      · simp [rtG1_o]
      · simp only [rtG1_o, hws] at hfr8
        exact hY (sn - (i + 1)) a8 w8 (by omega) ⟨i + 1, _, _, rfl, hlt, hfr8, hr8, hS7.lu, hS7.lq, hS7.inv, hS7.key⟩
  have hd2 : ¬ (i : Int) < sn := by omega
  refine Res.segV (F := []) (V := []) hostL _ (rtH c n sa sn sc sp m cp tot la i) rtH1_n (rtH1_1 c n sa sn sc sp m cp tot la i) (rtH1_2 c n sa sn sc sp m cp tot la i) (hI.res) (Looks.nil W) no_old no_ros rfl ?_ (fun _ _ => rfl) (fun _ _ => rfl) hfr5 fun ν j a6 w6 hfr6 hr6 => ?_
  · simp [rtH1_o]; omega
  have hfr6 : Fr Tryd.f4.ntmps (rtQ c n sp m cp tot la 0) a6 := hfr6
  have hS6 : St W c cb ws n w (Rg.k0 (la / w) n) l us qs sp m cp xs w6 := ⟨hr6, hI.lu, hI.lq, hI.inv, hI.key⟩
  refine loop_after (i := 27) (by kernel_rfl) (fun d a w1 => ∃ (i : Nat) (us : List RP) (xs : List Int), d = m - i ∧ i ≤ m ∧ (∀ j u, j < i → us[j]? = some u → u.done = true) ∧ Fr Tryd.f4.ntmps (rtQ c n sp m cp tot la i) a ∧ St W c cb ws n w (Rg.k0 (la / w) n) l us qs sp m cp xs w1) m ⟨0, us, xs, rfl, Nat.zero_le _, fun j u h => by omega, hfr6, hS6⟩ ?_
  clear hS6 hfr6 hr6 hI hfr5
  rintro d a7 w7 ⟨i, us, xs, rfl, hi, hend, hfr7, hI⟩ Y1 hY1 _
  by_cases hlt : i < m
  · have hi' : (i : Int) < m := by omega
    obtain ⟨p, hp⟩ : ∃ z, qs[i]? = some z := ⟨_, List.getElem?_eq_getElem (by rw [hI.lq]; exact hlt)⟩
    obtain ⟨_, _, hsp⟩ := res_len hI.res (List.mem_cons_of_mem _ (List.mem_cons_self ..))
    obtain ⟨gp, rfl⟩ := hsp (by omega)
    have hpq : (qs.map ptrV)[i]? = some (ptrV p) := by rw [List.getElem?_map, hp]; rfl
    have ops : ∀ o ∈ ([⟨rptrs (some ⟨gp, 0, none⟩) m cp (qs.map ptrV), gp, elC 1 i [(0, ptrV p)]⟩] : List Sy.Open), OpenOk o := opens_cons (open_row (row := fun q => [ptrV q]) ⟨_, _, rfl⟩ (List.map_eq_flatMap ..) (fun _ => rfl) hp (by simp) (by simp)) opens_nil
    have hF : Res W NoOld ([] ++ (rgB c cb ws n w ++ (famB (fB c w) us qs ++ []))) [] ([] ++ ([rptrs (some ⟨gp, 0, none⟩) m cp (qs.map ptrV)] ++ [wordsV ws n n n (xs.map u64V)])) w7 := hI.res.perm (.refl _) (.swap ..)
    refine Res.segO (F := []) (V := []) hostL _ (rtI c n gp m cp tot la i p) rtI1_n (rtI1_1 c n gp m cp tot la i p) (rtI1_2 c n gp m cp tot la i p) _ (hF) (ops) (Looks.nil W) no_old no_ros rfl ?_ (fun _ _ => rfl) (fun _ _ => rfl) (fun _ _ => rfl) hfr7 fun ν j a8 w8 hfr8 hr8 => ?_
    · simp [rtI1_o, hlt]
    have e5 : reV [⟨rptrs (some ⟨gp, 0, none⟩) m cp (qs.map ptrV), gp, elC 1 i [(0, ptrV p)]⟩] (rtI1_o c n gp m cp tot la i p ν j).2.2.loose = [rptrs (some ⟨gp, 0, none⟩) m cp (qs.map ptrV)] := re_ptr hp _ (by simp only [rtI1_o]; rfl)
    have hS8 : St W c cb ws n w (Rg.k0 (la / w) n) l us qs (some ⟨gp, 0, none⟩) m cp xs w8 := by
      rw [e5] at hr8
      exact ⟨hr8.perm (by simp [rtI1_o]) (by simp only [rtI1_o]; exact .swap ..), hI.lu, hI.lq, hI.inv, hI.key⟩
    have hfr8 : Fr Tryd.f4.ntmps (rtP c n (some ⟨gp, 0, none⟩) m cp tot la i p 0) a8 := hfr8
    obtain ⟨u0, hu0⟩ : ∃ u, us[i]? = some u := ⟨_, List.getElem?_eq_getElem (by rw [hI.lu]; exact hlt)⟩
    refine loop_after (i := 30) (by kernel_rfl) (fun d a w1 => ∃ (k : Nat) (u : RP) (us : List RP) (xs : List Int), us[i]? = some u ∧ (∀ j u, j < i → us[j]? = some u → u.done = true) ∧ d = 3 - k ∧ meas n w xs u + k ≤ 3 ∧ Fr Tryd.f4.ntmps (rtP c n (some ⟨gp, 0, none⟩) m cp tot la i p k) a ∧ St W c cb ws n w (Rg.k0 (la / w) n) l us qs (some ⟨gp, 0, none⟩) m cp xs w1) 3 ⟨0, u0, us, xs, hu0, hend, rfl, meas_le .., hfr8, hS8⟩ ?_
    clear hS8 hfr8 hr8 hI hfr7 hend hu0 u0 hF e5
    rintro d a9 w9 ⟨k, u, us, xs, hu, hend, rfl, hme, hfr9, hI⟩ Y2 hY2 hYY
    have hF : Res W NoOld (fB c w u p ++ (famB (fB c w) (us.eraseIdx i) (qs.eraseIdx i) ++ rgB c cb ws n w)) [] ([] ++ ([wordsV ws n n n (xs.map u64V)] ++ [rptrs (some ⟨gp, 0, none⟩) m cp (qs.map ptrV)])) w9 := hI.res.perm (by
      rw [List.append_nil]
      exact List.perm_append_comm.trans (((famB_focus hu hp).append_right _).trans (.of_eq (List.append_assoc _ _ _)))) (.refl _)
    have back : ∀ {w6 : World}, Res W NoOld (fB c w u p ++ (famB (fB c w) (us.eraseIdx i) (qs.eraseIdx i) ++ rgB c cb ws n w)) [] ([] ++ ([wordsV ws n n n (xs.map u64V)] ++ [rptrs (some ⟨gp, 0, none⟩) m cp (qs.map ptrV)])) w6 → St W c cb ws n w (Rg.k0 (la / w) n) l us qs (some ⟨gp, 0, none⟩) m cp xs w6 := fun {w6} h => ⟨h.perm (by
      rw [List.append_nil]
      exact (List.perm_append_comm.trans (((famB_focus hu hp).append_right _).trans (.of_eq (List.append_assoc _ _ _)))).symm) (.refl _), hI.lu, hI.lq, hI.inv, hI.key⟩
    cases hdn : u.done with
    | false =>
      have hm1 := meas_step (n := n) (w := w) (xs := xs) (b := false) hdn
      have hk3 : k < 3 := by omega
      refine Res.segV (F := fB c w u p) (V := []) hostL _ (rtM c n (some ⟨gp, 0, none⟩) m cp tot la i p k u.t u.N (fnOf u.sw) (u.t / w) u.saw u.put u.done u.an) rtM1_n (rtM1_1 c n (some ⟨gp, 0, none⟩) m cp tot la i p k u.t u.N (fnOf u.sw) (u.t / w) u.saw u.put u.done u.an) (rtM1_2 c n (some ⟨gp, 0, none⟩) m cp tot la i p k u.t u.N (fnOf u.sw) (u.t / w) u.saw u.put u.done u.an) (hF) (Looks.nil W) no_old no_ros rfl ?_ (fun _ _ => rfl) (fun _ _ => rfl) hfr9 fun ν j a6 w6 hfr6 hr6 => ?_
      · simp [rtM1_o, hdn]; omega
      · have hS6 := back (w6 := w6) hr6
        refine (hS6.step hn1 hlu hu hp).mono ?_
        rintro e w7 ⟨v, rfl, hS7⟩
        refine ⟨v, rfl, ?_⟩
        have hfr7 := (hfr6.put (d := 123) (v := v) (by decide +kernel) (rtP c n (some ⟨gp, 0, none⟩) m cp tot la i p k) (fun x hx => hx) (by simp [rtP, rtQ, rtK])).less (fun x hx => List.mem_cons_of_mem _ hx)
        have hwk : IntKind.i64.wrap ((k : Int) + 1) = ((k + 1 : Nat) : Int) := by rw [wrap_i64 (by omega) (by omega)]; simp
        refine Res.segV (F := []) (V := []) hostL _ (rtN c n (some ⟨gp, 0, none⟩) m cp tot la i p k) rtN1_n (rtN1_1 c n (some ⟨gp, 0, none⟩) m cp tot la i p k) (rtN1_2 c n (some ⟨gp, 0, none⟩) m cp tot la i p k) (hS7.res) (Looks.nil W) no_old no_ros rfl ?_ (fun _ _ => rfl) (fun _ _ => rfl) hfr7 fun ν j a8 w8 hfr8 hr8 => ?_
        · simp [rtN1_o]
        · simp only [rtN1_o, hwk] at hfr8
          exact hY2 (3 - (k + 1)) a8 w8 (by omega) ⟨k + 1, _, _, _, List.getElem?_set_self (List.getElem?_eq_some_iff.1 hu).1, fun j u' hj hju => hend j u' hj (by rwa [List.getElem?_set_ne (by omega)] at hju), rfl, by omega, hfr8, hr8, hS7.lu, hS7.lq, hS7.inv, hS7.key⟩
    | true =>
      have hend' : ∀ j u, j < i + 1 → us[j]? = some u → u.done = true := fun j u' hj hju => by
        by_cases e : j = i
        · subst e
          rw [hu] at hju
          cases hju
          exact hdn
        · exact hend j u' (by omega) hju
      have hI14 : Y2 27 = Y1 27 := hYY 27 (by decide)
      by_cases hk3 : k < 3
      · refine Res.segV (F := fB c w u p) (V := []) hostL _ (rtM c n (some ⟨gp, 0, none⟩) m cp tot la i p k u.t u.N (fnOf u.sw) (u.t / w) u.saw u.put u.done u.an) rtM2_n (rtM2_1 c n (some ⟨gp, 0, none⟩) m cp tot la i p k u.t u.N (fnOf u.sw) (u.t / w) u.saw u.put u.done u.an) (rtM2_2 c n (some ⟨gp, 0, none⟩) m cp tot la i p k u.t u.N (fnOf u.sw) (u.t / w) u.saw u.put u.done u.an) (hF) (Looks.nil W) no_old no_ros rfl ?_ (fun _ _ => rfl) (fun _ _ => rfl) hfr9 fun ν j a6 w6 hfr6 hr6 => ?_
        · simp [rtM2_o, hdn]; omega
        · show Y2 27 a6 w6
          rw [hI14]
          simp only [rtM2_o, hw0 hlt] at hfr6
          exact hY1 (m - (i + 1)) a6 w6 (by omega) ⟨i + 1, us, xs, rfl, hlt, hend', hfr6.less (fun x hx => List.mem_append_left [_, _] hx), back hr6⟩
      · refine Res.segV (F := fB c w u p) (V := []) hostL _ (rtM c n (some ⟨gp, 0, none⟩) m cp tot la i p k u.t u.N (fnOf u.sw) (u.t / w) u.saw u.put u.done u.an) rtM3_n (rtM3_1 c n (some ⟨gp, 0, none⟩) m cp tot la i p k u.t u.N (fnOf u.sw) (u.t / w) u.saw u.put u.done u.an) (rtM3_2 c n (some ⟨gp, 0, none⟩) m cp tot la i p k u.t u.N (fnOf u.sw) (u.t / w) u.saw u.put u.done u.an) (hF) (Looks.nil W) no_old no_ros rfl ?_ (fun _ _ => rfl) (fun _ _ => rfl) hfr9 fun ν j a6 w6 hfr6 hr6 => ?_
        · simp [rtM3_o, hdn]; omega
        · show Y2 27 a6 w6
          rw [hI14]
          simp only [rtM3_o, hw0 hlt] at hfr6
          exact hY1 (m - (i + 1)) a6 w6 (by omega) ⟨i + 1, us, xs, rfl, hlt, hend', hfr6.less (fun x hx => List.mem_append_left [_, _] hx), back hr6⟩
  have hall : ∀ u ∈ us, u.done = true := fun u hu => by
    obtain ⟨j, hj⟩ := List.mem_iff_getElem?.1 hu
    exact hend j u (by have := (List.getElem?_eq_some_iff.1 hj).1; rw [hI.lu] at this; omega) hj
  have hlaq := Rg.div_nonneg hla0 hw
  obtain ⟨hk0, hk1, hk2⟩ := Rg.k0_le hlaq hn0
  have hmn : Rg.many (la / w) n ≤ n := by unfold Rg.many; omega
  have hall2 : Rg.all us = tot := by
    rw [htot, ← hI.key, List.map_map]
    rfl
  have hsum : Rg.tot (Rg.sumR n w la xs) = tot := by
    rw [← hall2]
    refine Rg.slots_tot hI.inv hmn (fun u hu => ?_) hall
    have : key u ∈ l := by rw [← hI.key]; exact List.mem_map_of_mem hu
    exact hqs _ this
  have hbad : Rg.bad w la 0 = false := by simp [Rg.bad]; omega
  have hsu : sumOk n n (n : Int) w la = true := by simp [sumOk, ringOk, hw, hn0, hn1, hla1]
  have hd : ¬ (i : Int) < m := by omega
  refine Res.segV (F := rgB c cb ws n w) (V := [wordsV ws n n n (xs.map u64V)]) hostL _ (rtJ c cb ws n w sp m cp tot la i xs) rtJ1_n (rtJ1_1 c cb ws n w sp m cp tot la i xs) (rtJ1_2 c cb ws n w sp m cp tot la i xs) (hI.res) (hlu) no_old no_ros rfl ?_ (fun _ _ => rfl) (fun _ _ => rfl) hfr7 fun ν j a8 w8 hfr8 hr8 => ?_
  · simp only [rtJ1_o, all_u64]
    simp [hbad, hsu, hd]; try omega
  obtain ⟨es, hes⟩ : ∃ es, es = Rg.sumR n w la xs := ⟨_, rfl⟩
  obtain ⟨o, ho⟩ : ∃ o, o = rtJ1_o c cb ws n w sp m cp tot la i xs ν j := ⟨_, rfl⟩
  have e0 : o.1 = .loop (cutAt Tryd.f4 41).1 (cutAt Tryd.f4 41).2 := by rw [ho]; rfl
  rw [← ho] at hfr8 hr8
  rw [← ho, e0]
  obtain ⟨m2, hm2⟩ : ∃ m2, m2 = Rg.many (la / w) n := ⟨_, rfl⟩
  obtain ⟨g, c2, e1, e2, e3, e4⟩ : ∃ g c2, o.2.1 = rtZ n tot tot (Rg.tot (es.take 0)) g m2 c2 0 ∧ o.2.2.vecs = [wordsV ws n n n (xs.map u64V), u64sV (some ⟨g, 0, none⟩) m2 c2 (es.map u64V)] ∧ o.2.2.news = [] ∧ o.2.2.blocks = rgB c cb ws n w := by
    rw [ho, hes, hm2]
    simp only [rtJ1_o, map_valU, hsum]
    exact ⟨_, _, rfl, rfl, trivial, rfl⟩
  rw [e1] at hfr8
  rw [e2, e3, e4] at hr8
  have hel' : es.length = m2 := by rw [hes, hm2]; simp [Rg.sumR, Rg.slots_len]
  have hr8' := hr8.perm (.refl _) ((List.Perm.swap _ _ _).append_right _ : ([wordsV ws n n n (xs.map u64V), u64sV (some ⟨g, 0, none⟩) m2 c2 (es.map u64V)] ++ [rptrs sp m cp (qs.map ptrV)]).Perm ([u64sV (some ⟨g, 0, none⟩) m2 c2 (es.map u64V), wordsV ws n n n (xs.map u64V)] ++ [rptrs sp m cp (qs.map ptrV)]))
  refine loop_after (i := 41) (by kernel_rfl) (fun d a w1 => ∃ (i : Nat), d = m2 - i ∧ i ≤ m2 ∧ Fr Tryd.f4.ntmps (rtZ n tot tot (Rg.tot (es.take i)) g m2 c2 i) a ∧ ∃ F V, Res W NoOld ([] ++ F) [] ([u64sV (some ⟨g, 0, none⟩) m2 c2 (es.map u64V)] ++ V) w1) m2 ⟨0, rfl, Nat.zero_le _, hfr8, _, _, hr8'⟩ ?_
  clear hr8 hr8' hfr8 e0 e1 e2 e3 e4 ho o hfr7 hI
  rintro d a9 w9 ⟨i, rfl, hi, hfr9, F, V, hr9⟩ Y2 hY2 _
  by_cases hlt : i < m2
  · have hi' : (i : Int) < m2 := by omega
    have hie : i < es.length := by omega
    have hwi : IntKind.i64.wrap ((i : Int) + 1) = ((i + 1 : Nat) : Int) := by rw [wrap_i64 (by omega) (by omega)]; simp
    refine Res.segV (F := []) (V := [u64sV (some ⟨g, 0, none⟩) m2 c2 (es.map u64V)]) hostL _ (rtY n tot tot (Rg.tot (es.take i)) g m2 c2 es i) rtY1_n (rtY1_1 n tot tot (Rg.tot (es.take i)) g m2 c2 es i) (rtY1_2 n tot tot (Rg.tot (es.take i)) g m2 c2 es i) (hr9) (Looks.nil W) no_old no_ros rfl ?_ (fun _ _ => rfl) (fun _ _ => rfl) hfr9 fun ν j a6 w6 hfr6 hr6 => ?_
    · simp only [rtY1_o, isK_u64, valI_u64, set_u64, map_valU, all_u64, isK_i64, valI_i64, set_i64, isK_bool, valB_bool, set_bool, sadd_eq, smul_eq, Nat.mul_one, Nat.zero_add, Nat.add_zero, List.length_map, Int.toNat_natCast]
      simp [hlt, hie]
    · have hs : IntKind.u64.wrap (Rg.tot (es.take i) + es.getD i 0) = Rg.tot (es.take (i + 1)) := by
        rw [List.take_add_one, List.getElem?_eq_getElem hie, Option.toList_some, Rg.tot_snoc, Rg.wrap_u]
        simp [List.getD, hie]
      simp only [rtY1_o, hwi, isK_u64, valI_u64, set_u64, map_valU, all_u64, isK_i64, valI_i64, set_i64, isK_bool, valB_bool, set_bool, sadd_eq, smul_eq, Nat.mul_one, Nat.zero_add, Nat.add_zero, List.length_map, Int.toNat_natCast, hs] at hfr6
      exact hY2 (m2 - (i + 1)) a6 w6 (by omega) ⟨i + 1, rfl, hlt, hfr6, F, V, hr6⟩
  · have htk : Rg.tot (es.take i) = tot := by rw [List.take_of_length_le (by omega), hes, hsum]
    rw [htk] at hfr9
    have hdd : ¬ (i : Int) < m2 := by omega
    have hmm : decide ((m2 : Int) ≤ n) = true := decide_eq_true (by omega)
    refine Res.segV (F := []) (V := []) hostL _ (rtX n tot g m2 c2 i) rtX1_n (rtX1_1 n tot g m2 c2 i) (rtX1_2 n tot g m2 c2 i) (hr9) (Looks.nil W) no_old no_ros rfl ?_ (fun _ _ => rfl) (fun _ _ => rfl) hfr9 fun ν j a6 w6 hfr6 hr6 => ?_
    · simp [rtX1_o]; omega
    · refine ⟨?_, res_old hr6⟩
      show Ending.returned (.bool (decide ((m2 : Int) ≤ n))) = _
      rw [hmm]
end Go.Proofs.YthmhdiipejgkiaaDoor.rstill
