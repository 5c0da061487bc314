/- RingBetween: the walk whole. -/
import Derived.Test.YthmhdiipejgkiaaDoorRgBtB
import Derived.Test.YthmhdiipejgkiaaDoorRgSt
set_option linter.unusedSimpArgs false
set_option linter.unusedVariables false
namespace Go.Proofs.YthmhdiipejgkiaaDoor.rbetween
open Go Sy Close
set_option maxRecDepth 100000
open Rg (RP Inv)
open rgs (fB oRow fnOf uRow bV cf sumB)
open rstill (map_set_same key stp_key re_ptr late_snoc)
theorem body : Tryd.f5.body = some (codeOf Tryd.f5) := by kernel_rfl
theorem ntmps : 4 ≤ Tryd.f5.ntmps := by decide +kernel
abbrev lo_ (w la : Int) (n : Nat) : Int := Rg.k0 (la / w) n
abbrev mn_ (w la : Int) (n : Nat) : Nat := Rg.many (la / w) n
structure Bp (n : Nat) (w la : Int) (l : List (Int × Int)) (xs : List Int) (us : List RP) (lk : Bool) (lw hg : Int) (i2 : Nat) (s : Int) : Prop where
  inv : Inv n w (lo_ w la n) xs us
  key : us.map key = l
  hi : ∀ u ∈ l, u.1 / w < lo_ w la n + mn_ w la n
  bgd : ∀ u ∈ us, u.done = true → u.bg = true
  le : i2 ≤ mn_ w la n
  not : lk = false → i2 = 0 ∧ s = 0 ∧ lw = 0 ∧ hg = 0
  b1 : lw ≤ s + Rg.win w (lo_ w la n + i2) (mn_ w la n - i2) us
  b0 : 0 ≤ s
  b2 : s ≤ Rg.win w (lo_ w la n) i2 us
  b3 : s ≤ hg
theorem Bp.hiU {n : Nat} {w la : Int} {l : List (Int × Int)} {xs : List Int} {us : List RP} {lk : Bool} {lw hg s : Int} {i2 : Nat} (h : Bp n w la l xs us lk lw hg i2 s) : ∀ u ∈ us, u.t / w < lo_ w la n + mn_ w la n := fun u hu => by
  have : rstill.key u ∈ l := by rw [← h.key]; exact List.mem_map_of_mem hu
  exact h.hi _ this
theorem Bp.nN {n : Nat} {w la : Int} {l : List (Int × Int)} {xs : List Int} {us : List RP} {lk : Bool} {lw hg s : Int} {i2 : Nat} (h : Bp n w la l xs us lk lw hg i2 s) : ∀ u ∈ us, 0 ≤ u.N := fun u hu => (h.inv.ok u hu).2.2.2.2.2
theorem Bp.s_le {n : Nat} {w la : Int} {l : List (Int × Int)} {xs : List Int} {us : List RP} {lk : Bool} {lw hg s : Int} {i2 : Nat} (h : Bp n w la l xs us lk lw hg i2 s) : s ≤ 4294967295 := by
  have a := (Rg.win_le (w := w) (lo := lo_ w la n) (m := i2) h.nN).2
  have b := h.b2
  have c := h.inv.tot
  omega
theorem Bp.add {n : Nat} {w la : Int} {l : List (Int × Int)} {xs : List Int} {us : List RP} {lk : Bool} {lw hg s : Int} {i2 : Nat} (h : Bp n w la l xs us lk lw hg i2 s) {j : Nat} {u : RP} (hu : us[j]? = some u) : Bp n w la l (Rg.stp n w xs u).1 (us.set j { (Rg.stp n w xs u).2 with bg := true }) lk lw hg i2 s := by
  have hm := Rg.win_mono (lo := lo_ w la n) (Rg.dn_mono h.inv hu (b := true)) i2
  have hm2 := Rg.win_mono (lo := lo_ w la n + i2) (Rg.dn_mono h.inv hu (b := true)) (mn_ w la n - i2)
  have h1 := h.b1
  have h2 := h.b2
  refine ⟨Rg.step_inv h.inv hu, by rw [map_set_same hu (stp_key ..)]; exact h.key, h.hi, fun v hv hd => ?_, h.le, h.not, by omega, h.b0, by omega, h.b3⟩
  rcases List.mem_or_eq_of_mem_set hv with hv | rfl
  · exact h.bgd v hv hd
  · rfl
theorem Bp.look {n : Nat} {w la : Int} {l : List (Int × Int)} {xs : List Int} {us : List RP} {lw hg s : Int} {i2 : Nat} (h : Bp n w la l xs us false lw hg i2 s) : Bp n w la l xs us true (us.map (cf true)).sum hg i2 s := by
  obtain ⟨rfl, rfl, rfl, rfl⟩ := h.not rfl
  refine ⟨h.inv, h.key, h.hi, h.bgd, h.le, (fun h => by cases h), ?_, h.b0, h.b2, h.b3⟩
  have e : (us.map (cf true)).sum = Rg.cd us := rfl
  have := Rg.win_full (w := w) (lo := lo_ w la n) (m := mn_ w la n) (us := us) (fun u hu => ⟨(h.inv.ok u hu).2.2.1, h.hiU u hu⟩)
  rw [e, ← this]
  simp
theorem Bp.sum {n : Nat} {w la : Int} {l : List (Int × Int)} {xs : List Int} {us : List RP} {lk : Bool} {lw hg s : Int} {i2 : Nat} (h : Bp n w la l xs us lk lw hg i2 s) (hi : i2 < mn_ w la n) : Bp n w la l xs us true lw (us.map (cf false)).sum (i2 + 1) (s + Rg.dn w (lo_ w la n + i2) us) := by
  have e : (us.map (cf false)).sum = Rg.cb us := rfl
  have h0 : 0 ≤ Rg.dn w (lo_ w la n + i2) us := Rg.sum_nonneg fun u hu => by
    have := h.nN u hu
    unfold Rg.g
    split <;> omega
  have hc := Rg.win_cut w (lo_ w la n + i2) us 1 (mn_ w la n - (i2 + 1))
  have hone : Rg.win w (lo_ w la n + i2) 1 us = Rg.dn w (lo_ w la n + i2) us := by
    have := Rg.win_succ w (lo_ w la n + i2) 0 us
    simpa [Rg.win_zero] using this
  rw [show 1 + (mn_ w la n - (i2 + 1)) = mn_ w la n - i2 by omega, hone, show lo_ w la n + (i2 : Int) + ((1 : Nat) : Int) = lo_ w la n + ((i2 + 1 : Nat) : Int) by omega] at hc
  have hs := Rg.win_succ w (lo_ w la n) i2 us
  have h1 := h.b1
  have h2 := h.b2
  have h3 := h.b0
  have hw := (Rg.win_le (w := w) (lo := lo_ w la n) (m := i2 + 1) h.nN).2.1
  have hcb := Rg.cd_le_cb (us := us) fun u hu => ⟨h.nN u hu, h.bgd u hu⟩
  exact ⟨h.inv, h.key, h.hi, h.bgd, hi, (fun h => by cases h), by omega, by omega, by omega, by rw [e]; omega⟩
theorem pS {α : Type} {A B C : List α} : ((A ++ B) ++ (C ++ [])).Perm (B ++ (A ++ C)) := by
  rw [List.append_nil, ← List.append_assoc B]
  exact List.perm_append_comm.append_right C
theorem pC {α : Type} {A B C : List α} : ((A ++ B) ++ (C ++ [])).Perm (C ++ (A ++ B)) := by
  rw [List.append_nil]
  exact List.perm_append_comm
theorem pA {α : Type} {A B C : List α} : ((A ++ B) ++ (C ++ [])).Perm (A ++ (C ++ B)) := by
  rw [List.append_nil, List.append_assoc]
  exact perm_in List.perm_append_comm
theorem pV {α : Type} {a b c d e : α} : ([a, b] ++ [c, d, e]).Perm ([d, c, e] ++ [a, b]) := (perm3 [a, b] [c, d, e] []).trans (.swap d c _)
theorem pP {α : Type} {a b c d e : α} : ([a, b] ++ [c, d, e]).Perm ([c, e] ++ ([a, b] ++ [d])) := (perm3 [a, b] [c, d, e] []).trans (.cons c (List.perm_append_comm (l₁ := [d]) (l₂ := [e, a, b])))
abbrev RF (c cb ws n : Nat) (w la : Int) (us : List RP) (qs : List Nat) (i2 : Nat) (s : Int) (so2 : Option Addr) (c2 z : Nat) : Bks := (rgB c cb ws n w ++ sumB c w la n i2 s so2 c2 z) ++ (famB (fB c w) us qs ++ [])
abbrev RV (ws n : Nat) (xs : List Int) (so2 : Option Addr) (i2 c2 : Nat) (es : List Int) (sp : Option Addr) (m cp : Nat) (qs : List Nat) (so : Option Addr) (co : Nat) (us : List RP) (gb : Nat) : List Vec := [wordsV ws n n n (xs.map u64V), u64sV so2 i2 c2 (es.map u64V)] ++ [rptrs sp m cp (qs.map ptrV), ropsV so m co (us.flatMap uRow), boolsV (some ⟨gb, 0, none⟩) m m (us.map bV)]
/-- counted, called. -/
theorem cnt {W w0 : World} {c cb ws n : Nat} {w la : Int} {l : List (Int × Int)} {us : List RP} {qs : List Nat} {i2 : Nat} {s lw hg : Int} {lk : Bool} {so2 so sp : Option Addr} {c2 z m co cp gb : Nat} {xs es : List Int} (hp : Bp n w la l xs us lk lw hg i2 s) {i3 : Nat} {s3 : Int} (hlu : us.length = m) (hlq : qs.length = m) (hm : m ≤ 1048576) (e : Bool)
    (h : Res W NoOld (RF c cb ws n w la us qs i3 s3 so2 c2 z) [] (RV ws n xs so2 i3 c2 es sp m cp qs so co us gb) w0) :
    Calls Tryd.prog 22 #[.slice so m co, .slice sp m cp, .slice (some ⟨gb, 0, none⟩) m m, .bool e] w0 fun e' w' => e' = .returned (.int .u64 (us.map (cf e)).sum) ∧ Res W NoOld (RF c cb ws n w la us qs i3 s3 so2 c2 z) [] (RV ws n xs so2 i3 c2 es sp m cp qs so co us gb) w' := by
  refine (rgs.counted (F := rgB c cb ws n w ++ sumB c w la n i3 s3 so2 c2 z) (V := [wordsV ws n n n (xs.map u64V), u64sV so2 i3 c2 (es.map u64V)]) hlu hlq hm hp.nN hp.inv.tot e (h.perm pC pV)).mono ?_
  rintro e' w' ⟨rfl, hr⟩
  exact ⟨rfl, hr.perm pC.symm pV.symm⟩
theorem calls {W : World} (n w : Int) {oa : Option Addr} {on oc : Nat} {l0 : List rgop.Op} {sa : Option Addr} {sn sc : Nat} {ks : List Int} (hl : l0.length = on) (hcap : on ≤ oc) (hmax : oc ≤ maxLen) (hel : ∀ i y, l0[i]? = some y → Elem W oa 3 i y.row)
    (hl2 : ks.length = sn) (hcap2 : sn ≤ sc) (hmax2 : sc ≤ maxLen) (hel2 : ∀ i y, ks[i]? = some y → Elem W sa 1 i (intRow y)) (hb : on ≤ 1048576) (hU : UsesAt W) :
    Calls Tryd.prog 5 #[.int .i64 n, .int .i64 w, .slice oa on oc, .slice sa sn sc] W (Done W) := by
  have hlu := looksUses hU
  refine calls_after (X := fun _ _ _ => False) Tryd.func5 body ntmps fun a1 ha => ?_
  cases hok : Rg.okNew n w with
  | false =>
    refine Res.segV (F := []) (GF := []) (V := []) (GV := []) hostL _ (rbA n w oa on oc sa sn sc) rbA1_n (rbA1_1 n w oa on oc sa sn sc) (rbA1_2 n w oa on oc sa sn sc) (Res.start) (hlu) no_old no_ros rfl ?_ (fun _ _ => rfl) (fun _ _ => rfl) ha fun ν j a2 w2 hfr2 hr2 => ?_
    · simp [rbA1_o, hok]
    · exact ⟨rfl, res_old hr2⟩
  | true =>
  have hok' := hok
  simp only [Rg.okNew, Bool.and_eq_true, decide_eq_true_eq] at hok'
  obtain ⟨⟨⟨h1, h2⟩, hw⟩, h4⟩ := hok'
  obtain ⟨n, rfl⟩ : ∃ n' : Nat, n = n' := ⟨n.toNat, by omega⟩
  have hn0 : 0 < n := by omega
  have hn1 : n ≤ 4096 := by omega
  refine Res.segV (F := []) (GF := []) (V := []) (GV := []) hostL _ (rbA n w oa on oc sa sn sc) rbA2_n (rbA2_1 n w oa on oc sa sn sc) (rbA2_2 n w oa on oc sa sn sc) (Res.start) (hlu) no_old no_ros rfl ?_ (fun _ _ => rfl) (fun _ _ => rfl) ha fun ν j a2 w2 hfr2 hr2 => ?_
  · simp [rbA2_o, hok]
  obtain ⟨o, ho⟩ : ∃ o, o = rbA2_o n w oa on oc sa sn sc ν j := ⟨_, rfl⟩
  rw [← ho] at hfr2 hr2
  obtain ⟨c, cb, ws, e0, e1, e2, e3⟩ : ∃ c cb ws, o.1 = .call 17 #[.int .i64 n, .int .i64 w, .slice oa on oc] (some 52) (regAt Tryd.f5 6).1 ((regAt Tryd.f5 6).1.toList.drop 4) (regAt Tryd.f5 6).2 ∧ o.2.1 = [(0, .int .i64 n), (3, .slice sa sn sc), (9, ptrV c)] ∧ o.2.2.news = [(cb, 101, [.slice (some ⟨ws, 0, none⟩) n n]), (c, 81, [ptrV cb, .int .i64 n, .int .i64 w])] ∧ o.2.2.vecs = [wordsV ws n n n ((List.replicate n (0 : Int)).map u64V)] := by
    rw [ho]; exact ⟨_, _, _, rfl, rfl, rfl, rfl⟩
  have e4 : o.2.2.blocks = [] := by rw [ho]; rfl
  rw [← ho, e0]
  rw [e1] at hfr2
  rw [e2, e3, e4] at hr2
  have hres : Res W NoOld (rgB c cb ws n w) [] [wordsV ws n n n ((List.replicate n (0 : Int)).map u64V)] w2 := hr2.perm (List.Perm.swap ..) (.refl _)
  refine (rgs.near hl hcap hmax hel hb hn0 hn1 hw hres).mono ?_
  rintro e w3 ⟨l, so, m, co, lo, hi, rfl, hmo, hlen, hN, hr3⟩
  refine ⟨_, rfl, ?_⟩
  obtain ⟨⟨hla0, hla1, hla2⟩, hinv, hqs⟩ := hN.inv hn0 hw
  have hfr3 := hfr2.put (d := 52) (v := .slice so m co) (by decide +kernel) [(0, .int .i64 n), (3, .slice sa sn sc), (9, ptrV c)] (by simp) (by simp)
  refine Res.segV (F := []) (V := []) hostL _ (rbB c n sa sn sc so m co) rbB1_n (rbB1_1 c n sa sn sc so m co) (rbB1_2 c n sa sn sc so m co) (hr3) (Looks.nil W) no_old no_ros rfl ?_ (fun _ _ => rfl) (fun _ _ => rfl) hfr3 fun ν j a4 w4 hfr4 hr4 => ?_
  · simp [rbB1_o]
  have hfr4 : Fr Tryd.f5.ntmps (rbL c n sa sn sc so m co (Rg.late (l.take 0)) 0) a4 := hfr4
  have hr4 : Res W NoOld ([] ++ rgB c cb ws n w) [] ([] ++ ([ropsV so m co (l.flatMap oRow)] ++ [wordsV ws n n n ((List.replicate n (0 : Int)).map u64V)])) w4 := hr4
  have hw0 : ∀ {i : Nat}, i < m → IntKind.i64.wrap ((i : Int) + 1) = ((i + 1 : Nat) : Int) := fun {i} hi => by rw [wrap_i64 (by omega) (by omega)]; simp
  have hm1 : m ≤ 1048576 := by omega
  refine loop_after (i := 9) (by kernel_rfl) (fun d a w1 => ∃ (i : Nat), d = m - i ∧ i ≤ m ∧ Fr Tryd.f5.ntmps (rbL c n sa sn sc so m co (Rg.late (l.take i)) i) a ∧ Res W NoOld ([] ++ rgB c cb ws n w) [] ([] ++ ([ropsV so m co (l.flatMap oRow)] ++ [wordsV ws n n n ((List.replicate n (0 : Int)).map u64V)])) w1) m ⟨0, rfl, Nat.zero_le _, hfr4, hr4⟩ ?_
  clear hr4 hfr4 hfr3 hr3 hr2 hfr2 hres e0 e1 e2 e3 e4 ho o
  rintro d a5 w5 ⟨i, rfl, hi5, hfr5, hr5⟩ Y hY _
  by_cases hlt : i < m
  · obtain ⟨⟨t, N⟩, hu⟩ : ∃ u, l[i]? = some u := ⟨_, List.getElem?_eq_getElem (by omega)⟩
    obtain ⟨_, _, hso⟩ := res_len hr5 (List.mem_cons_self ..)
    obtain ⟨go, rfl⟩ := hso (by omega)
    have htk : l.take (i + 1) = l.take i ++ [(t, N)] := by rw [List.take_add_one, hu]; rfl
    have ops : ∀ o ∈ ([⟨ropsV (some ⟨go, 0, none⟩) m co (l.flatMap oRow), go, elC 3 i (ropK 1 t N)⟩] : List Sy.Open), OpenOk o := opens_cons (open_row ⟨_, _, rfl⟩ rfl rgs.oRow_len hu (by simp [oRow, ropK]) (by simp [ropK])) opens_nil
    refine Res.segO (F := []) (V := []) hostL _ (rbC c n sa sn sc go m co (Rg.late (l.take i)) i t N) rbC1_n (rbC1_1 c n sa sn sc go m co (Rg.late (l.take i)) i t N) (rbC1_2 c n sa sn sc go m co (Rg.late (l.take i)) i t N) _ (hr5) (ops) (Looks.nil W) no_old no_ros rfl ?_ (fun _ _ => rfl) (fun _ _ => rfl) (fun _ _ => rfl) hfr5 fun ν j a6 w6 hfr6 hr6 => ?_
    · simp [rbC1_o, hlt]
    · obtain ⟨o, ho⟩ : ∃ o, o = rbC1_o c n sa sn sc go m co (Rg.late (l.take i)) i t N ν j := ⟨_, rfl⟩
      rw [← ho] at hfr6 hr6
      have e1 : o.2.1 = rbL c n sa sn sc (some ⟨go, 0, none⟩) m co (Rg.late (l.take (i + 1))) (i + 1) := by
        rw [ho, htk, late_snoc]
        simp only [rbC1_o, hw0 hlt]
        rfl
      have e2 : o.2.2.news = [] := by rw [ho]; rfl
      have e3 : o.2.2.blocks = [] := by rw [ho]; rfl
      have e4 : o.2.2.vecs = [] := by rw [ho]; rfl
      have e5 : reV [⟨ropsV (some ⟨go, 0, none⟩) m co (l.flatMap oRow), go, elC 3 i (ropK 1 t N)⟩] o.2.2.loose = [ropsV (some ⟨go, 0, none⟩) m co (l.flatMap oRow)] := by
        rw [show o.2.2.loose = opL go (elC 3 i (ropK 1 t N)) [] by rw [ho]; rfl]
        simp only [reV, ropsV]
        rw [reL_row (u := (t, N)) (u' := (t, N)) rgs.oRow_len hu (by simp [ropK]) rfl, set_same hu]
      rw [e1] at hfr6
      rw [e2, e3, e4, e5] at hr6
      exact hY _ a6 w6 (by omega) ⟨i + 1, rfl, hlt, hfr6, hr6⟩
  have hd : ¬ (i : Int) < m := by omega
  have hin : i = m := by omega
  subst hin
  have htk : l.take i = l := List.take_of_length_le (by omega)
  rw [htk] at hfr5
  obtain ⟨la, hla⟩ : ∃ x, x = Rg.late l := ⟨_, rfl⟩
  rw [← hla] at hla0 hla1 hla2 hinv hqs hfr5
  have hlq := Rg.tdiv_eq hla0 hla1 hw
  have hlaq := Rg.div_nonneg hla0 hw
  obtain ⟨hk0, hk1, hk2⟩ := Rg.k0_le hlaq hn0
  have hmn : Rg.many (la / w) n ≤ n ∧ 0 < Rg.many (la / w) n := by unfold Rg.many; omega
  have hwz : ¬ w = 0 := by omega
  have hr5' : Res W NoOld (rgB c cb ws n w ++ []) [] ([] ++ ([ropsV so i co (l.flatMap oRow)] ++ [wordsV ws n n n ((List.replicate n (0 : Int)).map u64V)])) w5 := hr5.perm (by simp) (.refl _)
  refine Res.segV (F := rgB c cb ws n w) (V := []) hostL _ (rbD c cb ws n w sa sn sc so i co la i) rbD1_n (rbD1_1 c cb ws n w sa sn sc so i co la i) (rbD1_2 c cb ws n w sa sn sc so i co la i) (hr5') (Looks.nil W) no_old no_ros rfl ?_ (fun _ _ => rfl) (fun _ _ => rfl) hfr5 fun ν j a6 w6 hfr6 hr6 => ?_
  · simp only [rbD1_o, hlq]
    simp [hd, hwz, maxLen]
    exact ⟨decide_eq_true (by omega), by omega, by omega, by omega⟩
  have hk : (if 0 > IntKind.i64.wrap (IntKind.i64.wrap (IntKind.i64.wrap (Int.tdiv la w) - (n : Int)) + 1) then 0 else IntKind.i64.wrap (IntKind.i64.wrap (IntKind.i64.wrap (Int.tdiv la w) - (n : Int)) + 1)) = Rg.k0 (la / w) n := by
    rw [hlq, wrap_i64 (x := la / w - n) (by omega) (by omega), wrap_i64 (by omega) (by omega)]
    rfl
  obtain ⟨z, gb, e1, e2, e3, e4⟩ : ∃ z gb, (rbD1_o c cb ws n w sa sn sc so i co la i ν j).2.1 = rbM c n sa sn sc so i co z none 0 gb 0 ∧ (rbD1_o c cb ws n w sa sn sc so i co la i ν j).2.2.news = [(z, 90, sumV c la (Rg.k0 (la / w) n) 0 false 0 none 0 0)] ∧ (rbD1_o c cb ws n w sa sn sc so i co la i ν j).2.2.vecs = [boolsV (some ⟨gb, 0, none⟩) i i (madeCells (Value.cells (.bool false)) (i * 1)).toList] ∧ (rbD1_o c cb ws n w sa sn sc so i co la i ν j).2.2.blocks = rgB c cb ws n w := by
    simp only [rbD1_o, hk]
    exact ⟨_, _, rfl, rfl, rfl, rfl⟩
  rw [e1] at hfr6
  rw [e2, e3, e4, Nat.mul_one, show (Value.cells (.bool false)) = #[.bool false] from rfl, toList_madeCells_one] at hr6
  have hfr6' : Fr Tryd.f5.ntmps (rbM c n sa sn sc so i co z none 0 gb 0) a6 := hfr6
  have hsB : [(z, 90, sumV c la (Rg.k0 (la / w) n) 0 false 0 none 0 0)] = sumB c w la n 0 0 none 0 z := by
    have : ¬ 0 = Rg.many (la / w) n := by omega
    simp [sumB, this]
  rw [hsB] at hr6
  have hr7 : Res W NoOld (rgB c cb ws n w ++ (sumB c w la n 0 0 none 0 z ++ (famB (fB c w) ((l.take 0).map Rg.rp0) [] ++ []))) [] ([rptrs none 0 0 (([] : List Nat).map ptrV)] ++ ([ropsV so i co (l.flatMap oRow)] ++ [boolsV (some ⟨gb, 0, none⟩) i i (List.replicate i (.bool false)), wordsV ws n n n ((List.replicate n (0 : Int)).map u64V)])) w6 :=
    res_nil (hr6.perm ((perm3 _ _ _).trans (by simp [famB])) (.swap ..)) _ _
  clear hr6 hr5 hr5' hfr5 hfr6 e1 e2 e3 e4 hk
  generalize i = m at *
  refine loop_after (i := 19) (by kernel_rfl) (fun d a w1 => ∃ (i : Nat) (qs : List Nat) (sp : Option Addr) (cp : Nat), d = m - i ∧ i ≤ m ∧ qs.length = i ∧ Fr Tryd.f5.ntmps (rbM c n sa sn sc so m co z sp cp gb i) a ∧
    Res W NoOld (rgB c cb ws n w ++ (sumB c w la n 0 0 none 0 z ++ (famB (fB c w) ((l.take i).map Rg.rp0) qs ++ []))) [] ([rptrs sp i cp (qs.map ptrV)] ++ ([ropsV so m co (l.flatMap oRow)] ++ [boolsV (some ⟨gb, 0, none⟩) m m (List.replicate m (.bool false)), wordsV ws n n n ((List.replicate n (0 : Int)).map u64V)])) w1) m ⟨0, [], none, 0, rfl, Nat.zero_le _, rfl, hfr6', hr7⟩ ?_
  clear hr7 hfr6'
  rintro d a7 w7 ⟨i, qs, sp, cp, rfl, hi7, hlqs, hfr7, hr7⟩ Y hY _
  by_cases hlt : i < m
  · obtain ⟨⟨t, N⟩, hu⟩ : ∃ u, l[i]? = some u := ⟨_, List.getElem?_eq_getElem (by omega)⟩
    obtain ⟨ht0, ht1, hq1, hN0, hN1, _, _⟩ := hN.ok _ (List.mem_of_getElem? hu)
    simp only at ht0 ht1 hq1 hN0 hN1
    obtain ⟨_, _, hso⟩ := res_len hr7 (List.mem_cons_of_mem _ (List.mem_cons_self ..))
    obtain ⟨go, rfl⟩ := hso (by omega)
    have hqq := Rg.tdiv_eq ht0 ht1 hw
    have htk : l.take (i + 1) = l.take i ++ [(t, N)] := by rw [List.take_add_one, hu]; rfl
    have ops : ∀ o ∈ ([⟨ropsV (some ⟨go, 0, none⟩) m co (l.flatMap oRow), go, elC 3 i (ropK 1 t N)⟩] : List Sy.Open), OpenOk o := opens_cons (open_row ⟨_, _, rfl⟩ rfl rgs.oRow_len hu (by simp [oRow, ropK]) (by simp [ropK])) opens_nil
    refine Res.segO (F := rgB c cb ws n w) (V := [rptrs sp i cp (qs.map ptrV)]) hostL _ (rbE c cb ws n w sa sn sc go m co z sp cp gb (qs.map ptrV) i t N) rbE1_n (rbE1_1 c cb ws n w sa sn sc go m co z sp cp gb (qs.map ptrV) i t N) (rbE1_2 c cb ws n w sa sn sc go m co z sp cp gb (qs.map ptrV) i t N) _ (hr7) (ops) (Looks.nil W) no_old no_ros rfl ?_ (fun _ _ => rfl) (fun _ _ => rfl) (fun _ _ => rfl) hfr7 fun ν j a6 w6 hfr6 hr6 => ?_
    · simp only [rbE1_o, hqq]
      simp [hlt, hwz, rptrs, addV_eq, maxLen] <;> omega
    · obtain ⟨o, ho⟩ : ∃ o, o = rbE1_o c cb ws n w sa sn sc go m co z sp cp gb (qs.map ptrV) i t N ν j := ⟨_, rfl⟩
      rw [← ho] at hfr6 hr6
      obtain ⟨p, gp, cp', e1, e2, e3⟩ : ∃ p gp cp', o.2.1 = rbM c n sa sn sc (some ⟨go, 0, none⟩) m co z (some ⟨gp, 0, none⟩) cp' gb (i + 1) ∧ o.2.2.news = fB c w (Rg.rp0 (t, N)) p ∧ o.2.2.vecs = [rptrs (some ⟨gp, 0, none⟩) (i + 1) cp' (qs.map ptrV ++ [ptrV p])] := by
        rw [ho]
        simp only [rbE1_o, hw0 hlt, hqq, addV_eq]
        exact ⟨_, _, _, rfl, rfl, rfl⟩
      have e4 : o.2.2.blocks = rgB c cb ws n w := by rw [ho]; rfl
      have e5 : reV [⟨ropsV (some ⟨go, 0, none⟩) m co (l.flatMap oRow), go, elC 3 i (ropK 1 t N)⟩] o.2.2.loose = [ropsV (some ⟨go, 0, none⟩) m co (l.flatMap oRow)] := by
        rw [show o.2.2.loose = opL go (elC 3 i (ropK 1 t N)) [] by rw [ho]; rfl]
        simp only [reV, ropsV]
        rw [reL_row (u := (t, N)) (u' := (t, N)) rgs.oRow_len hu (by simp [ropK]) rfl, set_same hu]
      rw [e1] at hfr6
      rw [e2, e3, e4, e5] at hr6
      refine hY _ a6 w6 (by omega) ⟨i + 1, qs ++ [p], _, cp', rfl, hlt, by simp [hlqs], hfr6, ?_⟩
      rw [htk, List.map_append, List.map_cons, List.map_nil, famB_push (by simp; omega), List.map_append]
      refine hr6.perm ((perm3 _ _ _).trans (perm_in ?_)) (.refl _)
      rw [List.append_assoc, List.append_assoc]
      refine perm_in ?_
      rw [List.append_assoc]
      exact perm_in List.perm_append_comm
  have hd : ¬ (i : Int) < m := by omega
  have hin : i = m := by omega
  subst hin
  have htk : l.take i = l := List.take_of_length_le (by omega)
  rw [htk] at hr7
  refine Res.segV (F := []) (V := []) hostL _ (rbF c n sa sn sc so i co z sp cp gb i) rbF1_n (rbF1_1 c n sa sn sc so i co z sp cp gb i) (rbF1_2 c n sa sn sc so i co z sp cp gb i) (hr7) (Looks.nil W) no_old no_ros rfl ?_ (fun _ _ => rfl) (fun _ _ => rfl) hfr7 fun ν j a6 w6 hfr6 hr6 => ?_
  · simp [rbF1_o, hd]
  have hfr6 : Fr Tryd.f5.ntmps (rbS n so i co z sp cp gb false 0 0 sa sn sc 0) a6 := hfr6
  have hr8 : Res W NoOld (RF c cb ws n w la (l.map Rg.rp0) qs 0 0 none 0 z) [] (RV ws n (List.replicate n 0) none 0 0 [] sp i cp qs so co (l.map Rg.rp0) gb) w6 := by
    have hu2 : (l.map Rg.rp0).flatMap uRow = l.flatMap oRow := by rw [List.flatMap_map]; rfl
    have hb2 : (l.map Rg.rp0).map bV = List.replicate i (.bool false) := by
      rw [List.map_map]
      exact List.eq_replicate_iff.2 ⟨by simp [hlen], fun v hv => by obtain ⟨u, _, rfl⟩ := List.mem_map.1 hv; rfl⟩
    rw [RV, hu2, hb2]
    have := res_nil hr6 34 1
    refine this.perm (by simp [rbF1_o, RF, rgB]) ?_
    exact (perm3 [_] [rptrs sp i cp (qs.map ptrV), ropsV so i co (l.flatMap oRow), boolsV (some ⟨gb, 0, none⟩) i i (List.replicate i (.bool false))] [wordsV ws n n n ((List.replicate n (0 : Int)).map u64V)]).trans (perm3 _ _ _)
  have hB6 : Bp n w la l (List.replicate n 0) (l.map Rg.rp0) false 0 0 0 0 := by
    have hnn : ∀ u ∈ l.map Rg.rp0, 0 ≤ u.N := fun u hu => (hinv.ok u hu).2.2.2.2.2
    refine ⟨hinv, by rw [List.map_map]; exact List.map_id' _, hqs, fun u hu hd => ?_, Nat.zero_le _, fun _ => ⟨rfl, rfl, rfl, rfl⟩, ?_, Int.le_refl _, Int.le_refl _, Int.le_refl _⟩
    · obtain ⟨v, _, rfl⟩ := List.mem_map.1 hu
      cases hd
    · have := (Rg.win_le (w := w) (lo := lo_ w la n + (0 : Nat)) (m := mn_ w la n - 0) hnn).1
      omega
  have hlu6 : (l.map Rg.rp0).length = i := by simp [hlen]
  clear hr6 hr7 hfr7
  generalize i = m at *
  refine loop_after (i := 29) (by kernel_rfl) (fun d a w1 => ∃ (i : Nat) (us : List RP) (xs : List Int) (lk : Bool) (lw hg s : Int) (i2 c2 : Nat) (so2 : Option Addr) (es : List Int), d = sn - i ∧ i ≤ sn ∧ us.length = m ∧ Fr Tryd.f5.ntmps (rbS n so m co z sp cp gb lk lw hg sa sn sc i) a ∧ Bp n w la l xs us lk lw hg i2 s ∧ Res W NoOld (RF c cb ws n w la us qs i2 s so2 c2 z) [] (RV ws n xs so2 i2 c2 es sp m cp qs so co us gb) w1) sn ⟨0, _, _, _, _, _, _, _, _, _, _, rfl, Nat.zero_le _, hlu6, hfr6, hB6, hr8⟩ ?_
  clear hr8 hB6 hfr6 hlu6
  rintro d a5 w5 ⟨i, us, xs, lk, lw, hg, s, i2, c2, so2, es, rfl, hi5, hlus, hfr5, hB, hr5⟩ Y hY _
  by_cases hls : i < sn
  · obtain ⟨kv, hk⟩ : ∃ k, ks[i]? = some k := ⟨_, List.getElem?_eq_getElem (by omega)⟩
    have he := hel2 i kv hk
    obtain ⟨sb, sf, rfl, _⟩ := hel2 i kv hk
    have hro := ro_elem' he [(0, .int .i64 kv)] (by simp [intRow]) (by simp)
    have hws := wrap_next hls hcap2 hmax2
    by_cases hk0 : kv < 0
    · refine Res.segV (F := []) (V := []) hostL _ (rbN n so m co z sp cp gb lk lw hg sb sf sn sc i kv) rbN1_n (rbN1_1 n so m co z sp cp gb lk lw hg sb sf sn sc i kv) (rbN1_2 n so m co z sp cp gb lk lw hg sb sf sn sc i kv) (hr5) (hro) no_old no_ros rfl ?_ (fun _ _ => rfl) (fun _ _ => rfl) hfr5 fun ν j a6 w6 hfr6 hr6 => ?_
      · simp [rbN1_o, hls, hk0]; omega
      · simp only [rbN1_o, hws] at hfr6
        exact hY (sn - (i + 1)) a6 w6 (by omega) ⟨i + 1, us, xs, lk, lw, hg, s, i2, c2, so2, es, rfl, hls, hlus, hfr6, hB, hr6⟩
    by_cases hkm : kv > m
    · refine Res.segV (F := []) (V := []) hostL _ (rbN n so m co z sp cp gb lk lw hg sb sf sn sc i kv) rbN2_n (rbN2_1 n so m co z sp cp gb lk lw hg sb sf sn sc i kv) (rbN2_2 n so m co z sp cp gb lk lw hg sb sf sn sc i kv) (hr5) (hro) no_old no_ros rfl ?_ (fun _ _ => rfl) (fun _ _ => rfl) hfr5 fun ν j a6 w6 hfr6 hr6 => ?_
      · simp [rbN2_o, hls, hk0, hkm] <;> omega
      · simp only [rbN2_o, hws] at hfr6
        exact hY (sn - (i + 1)) a6 w6 (by omega) ⟨i + 1, us, xs, lk, lw, hg, s, i2, c2, so2, es, rfl, hls, hlus, hfr6, hB, hr6⟩
    obtain ⟨q, rfl⟩ : ∃ q : Nat, kv = q := ⟨kv.toNat, by omega⟩
    by_cases hqm : q = m
    · subst hqm
      have hF : Res W NoOld (sumB c w la n i2 s so2 c2 z ++ (rgB c cb ws n w ++ famB (fB c w) us qs)) [] ([] ++ RV ws n xs so2 i2 c2 es sp q cp qs so co us gb) w5 := hr5.perm pS (.refl _)
      by_cases hend : i2 = mn_ w la n
      · have hdec : decide (i2 = Rg.many (la / w) n) = true := decide_eq_true hend
        refine Res.segV (F := sumB c w la n i2 s so2 c2 z) (V := []) hostL _ (rbG c n so q co z sp cp gb lk lw hg sb sf sn sc i la (Rg.k0 (la / w) n + i2) s (decide (i2 = Rg.many (la / w) n)) (if i2 = Rg.many (la / w) n then s else 0) so2 i2 c2) rbG1_n (rbG1_1 c n so q co z sp cp gb lk lw hg sb sf sn sc i la (Rg.k0 (la / w) n + i2) s (decide (i2 = Rg.many (la / w) n)) (if i2 = Rg.many (la / w) n then s else 0) so2 i2 c2) (rbG1_2 c n so q co z sp cp gb lk lw hg sb sf sn sc i la (Rg.k0 (la / w) n + i2) s (decide (i2 = Rg.many (la / w) n)) (if i2 = Rg.many (la / w) n then s else 0) so2 i2 c2) (hF) (hro) no_old no_ros rfl ?_ (fun _ _ => rfl) (fun _ _ => rfl) hfr5 fun ν j a6 w6 hfr6 hr6 => ?_
        · simp [rbG1_o, hls, show i2 = Rg.many (la / w) n from hend]
        · simp only [rbG1_o, hws] at hfr6
          refine hY (sn - (i + 1)) a6 w6 (by omega) ⟨i + 1, us, xs, lk, lw, hg, s, i2, c2, so2, es, rfl, hls, hlus, hfr6.less (fun x hx => ?_), hB, (show Res W NoOld (sumB c w la n i2 s so2 c2 z ++ (rgB c cb ws n w ++ famB (fB c w) us qs)) [] (RV ws n xs so2 i2 c2 es sp q cp qs so co us gb) w6 from hr6).perm pS.symm (.refl _)⟩
          simp [rbS, rbJ] at hx ⊢
          rcases hx with h | h | h | h | h | h | h | h | h | h | h <;> simp [h, ptrV]
      have hi2 : i2 < mn_ w la n := by have := hB.le; omega
      have hdec : decide (i2 = Rg.many (la / w) n) = false := decide_eq_false hend
      -- from the sum's Step on
      have turn : ∀ {lw : Int} {a : Act} {w6 : World}, Bp n w la l xs us true lw hg i2 s → Fr Tryd.f5.ntmps (rbT n so q co z sp cp gb true lw hg (some ⟨sb, sf, none⟩) sn sc i) a → Res W NoOld (RF c cb ws n w la us qs i2 s so2 c2 z) [] (RV ws n xs so2 i2 c2 es sp q cp qs so co us gb) w6 →
          Owed Tryd.prog Tryd.f5 Y (Done W) (.call 19 #[ptrV z] (some 125) (regAt Tryd.f5 35).1 ((regAt Tryd.f5 35).1.toList.drop 2) (regAt Tryd.f5 35).2) a w6 := fun {lw a w6} hB hfr hr => by
        refine (rgs.sstep hB.inv hn1 hlu hla0 hla1 hla2 hi2 hB.b0 hB.s_le hr).mono ?_
        rintro e w7 ⟨v, so3, c3, es3, rfl, hr7⟩
        refine ⟨v, rfl, ?_⟩
        have hfr7 := (hfr.put (d := 125) (v := v) (by decide +kernel) (rbT n so q co z sp cp gb true lw hg (some ⟨sb, sf, none⟩) sn sc i) (fun x hx => hx) (by simp [rbT, rbJ])).less (fun x hx => List.mem_cons_of_mem _ hx)
        refine Res.segV (F := []) (V := []) hostL _ (rbI n so q co z sp cp gb lw hg (some ⟨sb, sf, none⟩) sn sc i) rbI1_n (rbI1_1 n so q co z sp cp gb lw hg (some ⟨sb, sf, none⟩) sn sc i) (rbI1_2 n so q co z sp cp gb lw hg (some ⟨sb, sf, none⟩) sn sc i) (hr7) (Looks.nil W) no_old no_ros rfl ?_ (fun _ _ => rfl) (fun _ _ => rfl) hfr7 fun ν j a8 w8 hfr8 hr8 => ?_
        · simp [rbI1_o]
        refine (cnt hB hlus hlqs hm1 false hr8).mono ?_
        rintro e w9 ⟨rfl, hr9⟩
        refine ⟨_, rfl, ?_⟩
        have hfr9 := hfr8.put (d := 129) (v := .int .u64 (us.map (cf false)).sum) (by decide +kernel) (rbT n so q co z sp cp gb true lw hg (some ⟨sb, sf, none⟩) sn sc i) (fun x hx => hx) (by simp [rbT, rbJ])
        refine Res.segV (F := []) (V := []) hostL _ (rbO n so q co z sp cp gb lw hg (us.map (cf false)).sum (some ⟨sb, sf, none⟩) sn sc i) rbO1_n (rbO1_1 n so q co z sp cp gb lw hg (us.map (cf false)).sum (some ⟨sb, sf, none⟩) sn sc i) (rbO1_2 n so q co z sp cp gb lw hg (us.map (cf false)).sum (some ⟨sb, sf, none⟩) sn sc i) (hr9) (Looks.nil W) no_old no_ros rfl ?_ (fun _ _ => rfl) (fun _ _ => rfl) hfr9 fun ν j a10 w10 hfr10 hr10 => ?_
        · simp [rbO1_o]
        · simp only [rbO1_o, hws] at hfr10
          exact hY (sn - (i + 1)) a10 w10 (by omega) ⟨i + 1, us, xs, true, lw, _, _, i2 + 1, c3, so3, es3, rfl, hls, hlus, hfr10, hB.sum hi2, hr10⟩
      cases lk with
      | false =>
        refine Res.segV (F := sumB c w la n i2 s so2 c2 z) (V := []) hostL _ (rbG c n so q co z sp cp gb false lw hg sb sf sn sc i la (Rg.k0 (la / w) n + i2) s (decide (i2 = Rg.many (la / w) n)) (if i2 = Rg.many (la / w) n then s else 0) so2 i2 c2) rbG2_n (rbG2_1 c n so q co z sp cp gb false lw hg sb sf sn sc i la (Rg.k0 (la / w) n + i2) s (decide (i2 = Rg.many (la / w) n)) (if i2 = Rg.many (la / w) n then s else 0) so2 i2 c2) (rbG2_2 c n so q co z sp cp gb false lw hg sb sf sn sc i la (Rg.k0 (la / w) n + i2) s (decide (i2 = Rg.many (la / w) n)) (if i2 = Rg.many (la / w) n then s else 0) so2 i2 c2) (hF) (hro) no_old no_ros rfl ?_ (fun _ _ => rfl) (fun _ _ => rfl) hfr5 fun ν j a6 w6 hfr6 hr6 => ?_
        · simp [rbG2_o, hls, show ¬ i2 = Rg.many (la / w) n from hend]
        · have hr6' := (show Res W NoOld (sumB c w la n i2 s so2 c2 z ++ (rgB c cb ws n w ++ famB (fB c w) us qs)) [] (RV ws n xs so2 i2 c2 es sp q cp qs so co us gb) w6 from hr6).perm pS.symm (.refl _)
          refine (cnt hB hlus hlqs hm1 true hr6').mono ?_
          rintro e w7 ⟨rfl, hr7⟩
          refine ⟨_, rfl, ?_⟩
          have hfr7 := hfr6.put (d := 123) (v := .int .u64 (us.map (cf true)).sum) (by decide +kernel) (rbT n so q co z sp cp gb true lw hg (some ⟨sb, sf, none⟩) sn sc i) (fun x hx => hx) (by simp [rbT, rbJ])
          refine Res.segV (F := []) (V := []) hostL _ (rbH n so q co z sp cp gb lw (us.map (cf true)).sum hg (some ⟨sb, sf, none⟩) sn sc i) rbH1_n (rbH1_1 n so q co z sp cp gb lw (us.map (cf true)).sum hg (some ⟨sb, sf, none⟩) sn sc i) (rbH1_2 n so q co z sp cp gb lw (us.map (cf true)).sum hg (some ⟨sb, sf, none⟩) sn sc i) (hr7) (Looks.nil W) no_old no_ros rfl ?_ (fun _ _ => rfl) (fun _ _ => rfl) hfr7 fun ν j a8 w8 hfr8 hr8 => ?_
          · simp [rbH1_o]
          · exact turn hB.look hfr8 hr8
      | true =>
        refine Res.segV (F := sumB c w la n i2 s so2 c2 z) (V := []) hostL _ (rbG c n so q co z sp cp gb true lw hg sb sf sn sc i la (Rg.k0 (la / w) n + i2) s (decide (i2 = Rg.many (la / w) n)) (if i2 = Rg.many (la / w) n then s else 0) so2 i2 c2) rbG3_n (rbG3_1 c n so q co z sp cp gb true lw hg sb sf sn sc i la (Rg.k0 (la / w) n + i2) s (decide (i2 = Rg.many (la / w) n)) (if i2 = Rg.many (la / w) n then s else 0) so2 i2 c2) (rbG3_2 c n so q co z sp cp gb true lw hg sb sf sn sc i la (Rg.k0 (la / w) n + i2) s (decide (i2 = Rg.many (la / w) n)) (if i2 = Rg.many (la / w) n then s else 0) so2 i2 c2) (hF) (hro) no_old no_ros rfl ?_ (fun _ _ => rfl) (fun _ _ => rfl) hfr5 fun ν j a6 w6 hfr6 hr6 => ?_
        · simp [rbG3_o, hls, show ¬ i2 = Rg.many (la / w) n from hend]
        · exact turn hB hfr6 ((show Res W NoOld (sumB c w la n i2 s so2 c2 z ++ (rgB c cb ws n w ++ famB (fB c w) us qs)) [] (RV ws n xs so2 i2 c2 es sp q cp qs so co us gb) w6 from hr6).perm pS.symm (.refl _))
    have hqm : q < m := by omega
    obtain ⟨u, hu⟩ : ∃ u, us[q]? = some u := ⟨_, List.getElem?_eq_getElem (by omega)⟩
    obtain ⟨p, hp⟩ : ∃ z, qs[q]? = some z := ⟨_, List.getElem?_eq_getElem (by omega)⟩
    obtain ⟨_, _, hsp⟩ := res_len hr5 (List.mem_cons_of_mem _ (List.mem_cons_of_mem _ (List.mem_cons_self ..)))
    obtain ⟨gp, rfl⟩ := hsp (by omega)
    have ops : ∀ o ∈ ([⟨rptrs (some ⟨gp, 0, none⟩) m cp (qs.map ptrV), gp, elC 1 q [(0, ptrV p)]⟩, ⟨boolsV (some ⟨gb, 0, none⟩) m m (us.map bV), gb, elC 1 q [(0, .bool u.bg)]⟩] : List Sy.Open), OpenOk o := opens_cons (open_row (row := fun q => [ptrV q]) ⟨_, _, rfl⟩ (List.map_eq_flatMap ..) (fun _ => rfl) hp (by simp) (by simp)) (opens_cons (open_row (row := fun q => [bV q]) ⟨_, _, rfl⟩ (List.map_eq_flatMap ..) (fun _ => rfl) hu (by simp [bV]) (by simp)) opens_nil)
    have hF : Res W NoOld ([] ++ (rgB c cb ws n w ++ (famB (fB c w) us qs ++ sumB c w la n i2 s so2 c2 z))) [] ([] ++ ([rptrs (some ⟨gp, 0, none⟩) m cp (qs.map ptrV), boolsV (some ⟨gb, 0, none⟩) m m (us.map bV)] ++ ([wordsV ws n n n (xs.map u64V), u64sV so2 i2 c2 (es.map u64V)] ++ [ropsV so m co (us.flatMap uRow)]))) w5 := hr5.perm pA pP
    refine Res.segO (F := []) (V := []) hostL _ (rbP n so m co z gp cp gb lk lw hg sb sf sn sc i q p u.bg) rbP1_n (rbP1_1 n so m co z gp cp gb lk lw hg sb sf sn sc i q p u.bg) (rbP1_2 n so m co z gp cp gb lk lw hg sb sf sn sc i q p u.bg) _ (hF) (ops) (hro) no_old no_ros rfl ?_ (fun _ _ => rfl) (fun _ _ => rfl) (fun _ _ => rfl) hfr5 fun ν j a6 w6 hfr6 hr6 => ?_
    · simp [rbP1_o, hls, hqm]; omega
    · have e5 : reV [⟨rptrs (some ⟨gp, 0, none⟩) m cp (qs.map ptrV), gp, elC 1 q [(0, ptrV p)]⟩, ⟨boolsV (some ⟨gb, 0, none⟩) m m (us.map bV), gb, elC 1 q [(0, .bool u.bg)]⟩] (rbP1_o n so m co z gp cp gb lk lw hg sb sf sn sc i q p u.bg ν j).2.2.loose = [rptrs (some ⟨gp, 0, none⟩) m cp (qs.map ptrV), boolsV (some ⟨gb, 0, none⟩) m m ((us.set q { (Rg.stp n w xs u).2 with bg := true }).map bV)] := by
        simp only [rbP1_o, reV, rptrs, boolsV]
        simp only [elC, opL, reR, reL, smul_eq, Nat.mul_one, Nat.add_zero]
        rw [show Value.pointer (some ⟨p, 0, none⟩) = ptrV p from rfl, rgs.set_same' hp, List.map_set]
        rfl
      rw [e5] at hr6
      have hr6' : Res W NoOld (rgB c cb ws n w ++ (famB (fB c w) us qs ++ sumB c w la n i2 s so2 c2 z)) [] ([wordsV ws n n n (xs.map u64V)] ++ [u64sV so2 i2 c2 (es.map u64V), rptrs (some ⟨gp, 0, none⟩) m cp (qs.map ptrV), ropsV so m co (us.flatMap uRow), boolsV (some ⟨gb, 0, none⟩) m m ((us.set q { (Rg.stp n w xs u).2 with bg := true }).map bV)]) w6 := hr6.perm (by simp [rbP1_o]) pP.symm
      refine (rgs.astep hB.inv hn1 hlu hu hp hr6' true).mono ?_
      rintro e w7 ⟨v, rfl, hr7⟩
      refine ⟨v, rfl, ?_⟩
      have hfr7 := (hfr6.put (d := 145) (v := v) (by decide +kernel) (rbS n so m co z (some ⟨gp, 0, none⟩) cp gb lk lw hg (some ⟨sb, sf, none⟩) sn sc i) (fun x hx => hx) (by simp [rbS, rbJ])).less (fun x hx => List.mem_cons_of_mem _ hx)
      have hr7' : Res W NoOld (RF c cb ws n w la (us.set q { (Rg.stp n w xs u).2 with bg := true }) qs i2 s so2 c2 z) [] (RV ws n (Rg.stp n w xs u).1 so2 i2 c2 es (some ⟨gp, 0, none⟩) m cp qs so co (us.set q { (Rg.stp n w xs u).2 with bg := true }) gb) w7 := by
        have hrow : (us.set q { (Rg.stp n w xs u).2 with bg := true }).flatMap uRow = us.flatMap uRow := by
          have : ∀ us : List RP, us.flatMap uRow = (us.map key).flatMap oRow := fun us => by rw [List.flatMap_map]; rfl
          rw [this, this us, map_set_same hu (stp_key ..)]
        rw [RV, hrow]
        exact hr7.perm pA.symm (.refl _)
      refine Res.segV (F := []) (V := []) hostL _ (rbQ n so m co z (some ⟨gp, 0, none⟩) cp gb lk lw hg (some ⟨sb, sf, none⟩) sn sc i) rbQ1_n (rbQ1_1 n so m co z (some ⟨gp, 0, none⟩) cp gb lk lw hg (some ⟨sb, sf, none⟩) sn sc i) (rbQ1_2 n so m co z (some ⟨gp, 0, none⟩) cp gb lk lw hg (some ⟨sb, sf, none⟩) sn sc i) (hr7') (Looks.nil W) no_old no_ros rfl ?_ (fun _ _ => rfl) (fun _ _ => rfl) hfr7 fun ν j a8 w8 hfr8 hr8 => ?_
      · simp [rbQ1_o]
      · simp only [rbQ1_o, hws] at hfr8
        exact hY (sn - (i + 1)) a8 w8 (by omega) ⟨i + 1, _, _, lk, lw, hg, s, i2, c2, so2, es, rfl, hls, by simp [hlus], hfr8, hB.add hu, hr8⟩
  have hd2 : ¬ (i : Int) < sn := by omega
  refine Res.segV (F := []) (V := []) hostL _ (rbU n so m co z sp cp gb lk lw hg sa sn sc i) rbU1_n (rbU1_1 n so m co z sp cp gb lk lw hg sa sn sc i) (rbU1_2 n so m co z sp cp gb lk lw hg sa sn sc i) (hr5) (Looks.nil W) no_old no_ros rfl ?_ (fun _ _ => rfl) (fun _ _ => rfl) hfr5 fun ν j a6 w6 hfr6 hr6 => ?_
  · simp [rbU1_o]; omega
  have hfr6 : Fr Tryd.f5.ntmps (rbV n so m co z sp cp gb lk lw hg 0) a6 := hfr6
  have hr6 : Res W NoOld (RF c cb ws n w la us qs i2 s so2 c2 z) [] (RV ws n xs so2 i2 c2 es sp m cp qs so co us gb) w6 := hr6
  refine loop_after (i := 42) (by kernel_rfl) (fun d a w1 => ∃ (k : Nat) (lk : Bool) (lw hg s : Int) (i2 c2 : Nat) (so2 : Option Addr) (es : List Int), d = n - k ∧ k ≤ n ∧ (k ≤ i2 ∨ i2 = mn_ w la n) ∧ Fr Tryd.f5.ntmps (rbV n so m co z sp cp gb lk lw hg k) a ∧ Bp n w la l xs us lk lw hg i2 s ∧ Res W NoOld (RF c cb ws n w la us qs i2 s so2 c2 z) [] (RV ws n xs so2 i2 c2 es sp m cp qs so co us gb) w1) n ⟨0, _, _, _, _, _, _, _, _, rfl, Nat.zero_le _, .inl (Nat.zero_le _), hfr6, hB, hr6⟩ ?_
  clear hr6 hfr6 hr5 hfr5 hB
  rintro d a5 w5 ⟨k, lk, lw, hg, s, i2, c2, so2, es, rfl, hk5, hki, hfr5, hB, hr5⟩ Y1 hY1 _
  have hF : Res W NoOld (sumB c w la n i2 s so2 c2 z ++ (rgB c cb ws n w ++ famB (fB c w) us qs)) [] ([] ++ RV ws n xs so2 i2 c2 es sp m cp qs so co us gb) w5 := hr5.perm pS (.refl _)
  by_cases hend : i2 = mn_ w la n
  · have hdec : decide (i2 = Rg.many (la / w) n) = true := decide_eq_true hend
    have hif : (if i2 = Rg.many (la / w) n then s else 0) = s := if_pos hend
    have h1 := hB.b1
    have h3 := hB.b3
    rw [hend, Nat.sub_self, Rg.win_zero] at h1
    have hge : lw ≤ s := by omega
    have hle : decide (s ≤ hg) = true := decide_eq_true h3
    by_cases hkn : k < n
    · refine Res.segV (F := sumB c w la n i2 s so2 c2 z) (V := []) hostL _ (rbW c n so m co z sp cp gb lk lw hg k la (Rg.k0 (la / w) n + i2) s (decide (i2 = Rg.many (la / w) n)) (if i2 = Rg.many (la / w) n then s else 0) so2 i2 c2) rbW3_n (rbW3_1 c n so m co z sp cp gb lk lw hg k la (Rg.k0 (la / w) n + i2) s (decide (i2 = Rg.many (la / w) n)) (if i2 = Rg.many (la / w) n then s else 0) so2 i2 c2) (rbW3_2 c n so m co z sp cp gb lk lw hg k la (Rg.k0 (la / w) n + i2) s (decide (i2 = Rg.many (la / w) n)) (if i2 = Rg.many (la / w) n then s else 0) so2 i2 c2) (hF) (Looks.nil W) no_old no_ros rfl ?_ (fun _ _ => rfl) (fun _ _ => rfl) hfr5 fun ν j a6 w6 hfr6 hr6 => ?_
      · simp only [rbW3_o, hif, hdec]
        simp [hkn, hge]
      · refine ⟨?_, res_old hr6⟩
        simp only [rbW3_o, hif, hle]
    · refine Res.segV (F := sumB c w la n i2 s so2 c2 z) (V := []) hostL _ (rbW c n so m co z sp cp gb lk lw hg k la (Rg.k0 (la / w) n + i2) s (decide (i2 = Rg.many (la / w) n)) (if i2 = Rg.many (la / w) n then s else 0) so2 i2 c2) rbW4_n (rbW4_1 c n so m co z sp cp gb lk lw hg k la (Rg.k0 (la / w) n + i2) s (decide (i2 = Rg.many (la / w) n)) (if i2 = Rg.many (la / w) n then s else 0) so2 i2 c2) (rbW4_2 c n so m co z sp cp gb lk lw hg k la (Rg.k0 (la / w) n + i2) s (decide (i2 = Rg.many (la / w) n)) (if i2 = Rg.many (la / w) n then s else 0) so2 i2 c2) (hF) (Looks.nil W) no_old no_ros rfl ?_ (fun _ _ => rfl) (fun _ _ => rfl) hfr5 fun ν j a6 w6 hfr6 hr6 => ?_
      · simp only [rbW4_o, hif, hdec]
        simp [hkn, hge]; done
      · refine ⟨?_, res_old hr6⟩
        simp only [rbW4_o, hif, hle]
  have hi2 : i2 < mn_ w la n := by have := hB.le; omega
  have hmn' : mn_ w la n ≤ n := hmn.1
  have hkn : k < n := by omega
  have hdec : decide (i2 = Rg.many (la / w) n) = false := decide_eq_false hend
  have hwk : IntKind.i64.wrap ((k : Int) + 1) = ((k + 1 : Nat) : Int) := by rw [wrap_i64 (by omega) (by omega)]; simp
  have turn : ∀ {lw : Int} {a : Act} {w6 : World}, Bp n w la l xs us true lw hg i2 s → Fr Tryd.f5.ntmps (rbV n so m co z sp cp gb true lw hg k) a → Res W NoOld (RF c cb ws n w la us qs i2 s so2 c2 z) [] (RV ws n xs so2 i2 c2 es sp m cp qs so co us gb) w6 →
      Owed Tryd.prog Tryd.f5 Y1 (Done W) (.call 19 #[ptrV z] (some 164) (regAt Tryd.f5 47).1 ((regAt Tryd.f5 47).1.toList.drop 2) (regAt Tryd.f5 47).2) a w6 := fun {lw a w6} hB hfr hr => by
    refine (rgs.sstep hB.inv hn1 hlu hla0 hla1 hla2 hi2 hB.b0 hB.s_le hr).mono ?_
    rintro e w7 ⟨v, so3, c3, es3, rfl, hr7⟩
    refine ⟨v, rfl, ?_⟩
    have hfr7 := (hfr.put (d := 164) (v := v) (by decide +kernel) (rbV n so m co z sp cp gb true lw hg k) (fun x hx => hx) (by simp [rbV, rbJ])).less (fun x hx => List.mem_cons_of_mem _ hx)
    refine Res.segV (F := []) (V := []) hostL _ (rbY n so m co z sp cp gb lw hg k) rbY1_n (rbY1_1 n so m co z sp cp gb lw hg k) (rbY1_2 n so m co z sp cp gb lw hg k) (hr7) (Looks.nil W) no_old no_ros rfl ?_ (fun _ _ => rfl) (fun _ _ => rfl) hfr7 fun ν j a8 w8 hfr8 hr8 => ?_
    · simp [rbY1_o]
    refine (cnt hB hlus hlqs hm1 false hr8).mono ?_
    rintro e w9 ⟨rfl, hr9⟩
    refine ⟨_, rfl, ?_⟩
    have hfr9 := hfr8.put (d := 168) (v := .int .u64 (us.map (cf false)).sum) (by decide +kernel) (rbV n so m co z sp cp gb true lw hg k) (fun x hx => hx) (by simp [rbV, rbJ])
    refine Res.segV (F := []) (V := []) hostL _ (rbZ n so m co z sp cp gb lw hg (us.map (cf false)).sum k) rbZ1_n (rbZ1_1 n so m co z sp cp gb lw hg (us.map (cf false)).sum k) (rbZ1_2 n so m co z sp cp gb lw hg (us.map (cf false)).sum k) (hr9) (Looks.nil W) no_old no_ros rfl ?_ (fun _ _ => rfl) (fun _ _ => rfl) hfr9 fun ν j a10 w10 hfr10 hr10 => ?_
    · simp [rbZ1_o]
    · simp only [rbZ1_o, hwk] at hfr10
      exact hY1 (n - (k + 1)) a10 w10 (by omega) ⟨k + 1, true, lw, _, _, i2 + 1, c3, so3, es3, rfl, hkn, by omega, hfr10, hB.sum hi2, hr10⟩
  cases lk with
  | false =>
    refine Res.segV (F := sumB c w la n i2 s so2 c2 z) (V := []) hostL _ (rbW c n so m co z sp cp gb false lw hg k la (Rg.k0 (la / w) n + i2) s (decide (i2 = Rg.many (la / w) n)) (if i2 = Rg.many (la / w) n then s else 0) so2 i2 c2) rbW1_n (rbW1_1 c n so m co z sp cp gb false lw hg k la (Rg.k0 (la / w) n + i2) s (decide (i2 = Rg.many (la / w) n)) (if i2 = Rg.many (la / w) n then s else 0) so2 i2 c2) (rbW1_2 c n so m co z sp cp gb false lw hg k la (Rg.k0 (la / w) n + i2) s (decide (i2 = Rg.many (la / w) n)) (if i2 = Rg.many (la / w) n then s else 0) so2 i2 c2) (hF) (Looks.nil W) no_old no_ros rfl ?_ (fun _ _ => rfl) (fun _ _ => rfl) hfr5 fun ν j a6 w6 hfr6 hr6 => ?_
    · simp only [rbW1_o, hdec]
      simp [hkn]
    · have hr6' := (show Res W NoOld (sumB c w la n i2 s so2 c2 z ++ (rgB c cb ws n w ++ famB (fB c w) us qs)) [] (RV ws n xs so2 i2 c2 es sp m cp qs so co us gb) w6 from hr6).perm pS.symm (.refl _)
      refine (cnt hB hlus hlqs hm1 true hr6').mono ?_
      rintro e w7 ⟨rfl, hr7⟩
      refine ⟨_, rfl, ?_⟩
      have hfr7 := hfr6.put (d := 162) (v := .int .u64 (us.map (cf true)).sum) (by decide +kernel) (rbV n so m co z sp cp gb true lw hg k) (fun x hx => hx) (by simp [rbV, rbJ])
      refine Res.segV (F := []) (V := []) hostL _ (rbX n so m co z sp cp gb lw (us.map (cf true)).sum hg k) rbX1_n (rbX1_1 n so m co z sp cp gb lw (us.map (cf true)).sum hg k) (rbX1_2 n so m co z sp cp gb lw (us.map (cf true)).sum hg k) (hr7) (Looks.nil W) no_old no_ros rfl ?_ (fun _ _ => rfl) (fun _ _ => rfl) hfr7 fun ν j a8 w8 hfr8 hr8 => ?_
      · simp [rbX1_o]
      · exact turn hB.look hfr8 hr8
  | true =>
    refine Res.segV (F := sumB c w la n i2 s so2 c2 z) (V := []) hostL _ (rbW c n so m co z sp cp gb true lw hg k la (Rg.k0 (la / w) n + i2) s (decide (i2 = Rg.many (la / w) n)) (if i2 = Rg.many (la / w) n then s else 0) so2 i2 c2) rbW2_n (rbW2_1 c n so m co z sp cp gb true lw hg k la (Rg.k0 (la / w) n + i2) s (decide (i2 = Rg.many (la / w) n)) (if i2 = Rg.many (la / w) n then s else 0) so2 i2 c2) (rbW2_2 c n so m co z sp cp gb true lw hg k la (Rg.k0 (la / w) n + i2) s (decide (i2 = Rg.many (la / w) n)) (if i2 = Rg.many (la / w) n then s else 0) so2 i2 c2) (hF) (Looks.nil W) no_old no_ros rfl ?_ (fun _ _ => rfl) (fun _ _ => rfl) hfr5 fun ν j a6 w6 hfr6 hr6 => ?_
    · simp only [rbW2_o, hdec]
      simp [hkn]
    · exact turn hB hfr6 ((show Res W NoOld (sumB c w la n i2 s so2 c2 z ++ (rgB c cb ws n w ++ famB (fB c w) us qs)) [] (RV ws n xs so2 i2 c2 es sp m cp qs so co us gb) w6 from hr6).perm pS.symm (.refl _))
end Go.Proofs.YthmhdiipejgkiaaDoor.rbetween
